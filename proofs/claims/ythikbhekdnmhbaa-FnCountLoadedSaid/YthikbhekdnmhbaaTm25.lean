/- The tree machine, 25: a region that draws its order comes to what its text's order gives. -/
import Derived.Test.YthikbhekdnmhbaaTm24
namespace Go.TM
set_option linter.unusedVariables false
set_option linter.unusedSimpArgs false

/-- The frame and the world, in the midst of a region. -/
structure Mid [Use] (w0 : World) (L0 : Lab) (hpB : Hp) (N : Nat) (U : Nat → Prop) (x : SH) (a : Act) (w : World) (L : Lab) : Prop where
  h : HRel w0 L0 U x.2 w L
  s : Slots U w L x.2 x.1 a.tmps
  size : a.tmps.size = N
  defers : a.defers = []
  keeps : Keeps (ltN 3) w0 L0 hpB U w L x.2

def usedU (n : Nat) (listed : Array Bool) : Nat → Prop := fun k => k < n ∨ ∃ i, k = n + i ∧ listed.getD i false = true

theorem count_set_true (l : List Bool) (j : Nat) (h : l[j]? = some false) : (l.set j true).count false + 1 = l.count false := by
  induction l generalizing j with
  | nil => simp at h
  | cons x l ih =>
    cases j with
    | zero => simp at h; subst h; simp
    | succ j =>
      have := ih j (by simpa using h)
      simp only [List.set_cons_succ, List.count_cons]
      omega

theorem ready_nil {ops : Array Oper} {DT : List (Nat × Nat)} (hc : ChkD DT ops) {listed : Array Bool} (hz : listed.size = ops.size) (hr : Region.ready .any ops listed = []) : ∀ j, j < ops.size → listed.getD j false = true := by
  intro j
  induction j using Nat.strongRecOn with
  | _ j ih =>
    intro hj
    cases hl : listed.getD j false with
    | true => rfl
    | false =>
      exfalso
      have hj' : j < listed.size := by omega
      have : j ∈ Region.ready .any ops listed := by
        rw [mem_ready]
        refine ⟨?_, ops[j], by simp [hj], fun e he hb => ?_⟩
        · simp only [Array.getD, hj', dif_pos] at hl ⊢
          exact hl
        · have h1 := hc.edge j ops[j] (by simp [hj]) e he hb
          exact ih e.on h1 (by omega)
      rw [hr] at this
      cases this

section
variable {P : Program} {T : Nat → Option TI} {G : Nat → Option FM} {DT : List (Nat × Nat)} {N : Nat} {w0 : World} {L0 : Lab} {hpB : Hp} {ops : Array Oper}

/-- An operation that is ready finds what it finds in the text's order. -/
theorem ready_eff {n j : Nat} {listed : Array Bool} {xs : List (Option Nat × Eff)} {s0 : SH} {log : Log} (hc : ChkD DT ops) (hlen : xs.length = ops.size) (hd : Down ops listed) (hdr : drawB DT log = true)
    (hx : ∀ (k : Nat) o, ops.toList[k]? = some o → ∃ e, xs[k]? = some (o.dst, e) ∧ opA T G ops.toList n k o (foldE (fun q => decide (q < k)) 0 xs s0).1 (foldE (fun q => decide (q < k)) 0 xs s0).2 = some e ∧ logAt log k = (e.ups.map (·.1), e.rd))
    {o : Oper} (ho : ops[j]? = some o) (hun : listed.getD j false = false) (hall : ∀ e ∈ o.after, Region.binds .any e = true → listed.getD e.on false = true) :
    ∃ e, xs[j]? = some (o.dst, e) ∧ opA T G ops.toList n j o (foldE (fun q => listed.getD q false) 0 xs s0).1 (foldE (fun q => listed.getD q false) 0 xs s0).2 = some e ∧
      (∀ k y, xs[k]? = some y → j < k → listed.getD k false = true → (∀ t, o.dst = some t → y.1 ≠ some t) ∧ ∀ id ∈ e.ups.map (·.1), id ∉ y.2.ups.map (·.1)) := by
  have hat : ∀ k o, ops[k]? = some o → ops.toList[k]? = some o := fun k o h => by rw [Array.getElem?_toList]; exact h
  have hop : ∀ (k : Nat) (y : Option Nat × Eff), xs[k]? = some y → ∃ o', ops[k]? = some o' ∧ y.1 = o'.dst ∧ logAt log k = (y.2.ups.map (·.1), y.2.rd) ∧ (quietOp o'.op = true → y.2.ups = []) ∧ (blindOp o'.op = true → y.2.ups = [] ∧ y.2.rd = []) := by
    intro k y hk
    have hlt : k < ops.size := by
      have := (List.getElem?_eq_some_iff.1 hk).1
      omega
    obtain ⟨e, h1, h2, h3⟩ := hx k ops[k] (hat k _ (by simp [hlt]))
    rw [hk] at h1
    cases h1
    exact ⟨ops[k], by simp [hlt], rfl, h3, fun hq => opA_quiet hq h2, fun hq => opA_blind hq h2⟩
  obtain ⟨e, he1, he2, he3⟩ := hx j o (hat j o ho)
  have hcov : ∀ (i k : Nat) (y z : Option Nat × Eff), xs[i]? = some y → xs[k]? = some z → coverB DT ops i k = true → ∀ id ∈ y.2.ups.map (·.1), id ∉ z.2.ups.map (·.1) ∧ id ∉ z.2.rd := by
    intro i k y z hi hk hcv id hid
    obtain ⟨oi, g1, g2, g3, g4, g5⟩ := hop i y hi
    obtain ⟨ok, f1, f2, f3, f4, f5⟩ := hop k z hk
    unfold coverB at hcv
    rw [g1, f1] at hcv
    simp only [Bool.or_eq_true] at hcv
    rcases hcv with (hq | hq) | hq
    · rw [g4 hq] at hid; simp at hid
    · rw [(f5 hq).1, (f5 hq).2]; simp
    · unfold drawB at hdr
      simp only [List.all_eq_true] at hdr
      have := hdr (i, k) (by simpa using hq)
      simp only [g3, f3] at this
      exact ⟨fun hm => disjB_spec this hid (by simp [hm]), fun hm => disjB_spec this hid (by simp [hm])⟩
  -- those before j that aren't listed, and those behind it that are, have nothing to do with j
  have hfree : ∀ k ok, ops[k]? = some ok → listed.getD k false ≠ decide (k < j) → k ≠ j ∧ (ok.apart ops o = true ∨ o.apart ops ok = true) ∧ coverB DT ops k j = true ∧ coverB DT ops j k = true := by
    intro k ok hk hne
    rcases Nat.lt_trichotomy k j with hlt | heq | hgt
    · have hkl : listed.getD k false = false := by
        rw [decide_eq_true hlt] at hne
        cases hl : listed.getD k false with
        | true => rw [hl] at hne; exact absurd rfl hne
        | false => rfl
      rcases hc.pair k j ok o hlt hk ho with h1 | ⟨h1, h2, h3⟩
      · have := down_ord hd _ k j h1 fun oj hoj => by rw [ho] at hoj; cases hoj; exact hall
        rw [this] at hkl; cases hkl
      · exact ⟨by omega, .inl h1, h2, h3⟩
    · subst heq
      rw [hun] at hne
      simp at hne
    · have hkl : listed.getD k false = true := by
        rw [show decide (k < j) = false from by simp; omega] at hne
        cases hl : listed.getD k false with
        | true => rfl
        | false => rw [hl] at hne; exact absurd rfl hne
      rcases hc.pair j k o ok hgt ho hk with h1 | ⟨h1, h2, h3⟩
      · have := down_ord hd _ j k h1 fun oj hoj => hd k oj hkl hoj
        rw [this] at hun; cases hun
      · exact ⟨by omega, .inr h1, h3, h2⟩
  refine ⟨e, he1, ?_, fun k y hk hjk hl => ?_⟩
  · have hslots : ∀ t, t ∈ o.looksAt ops → (foldE (fun q => listed.getD q false) 0 xs s0).1 t = (foldE (fun q => decide (q < j)) 0 xs s0).1 t := by
      intro t ht
      refine foldE_slot xs 0 _ _ rfl fun k y hk hy => ?_
      rw [Nat.zero_add]
      obtain ⟨ok, g1, g2, _⟩ := hop k y hk
      rw [g2] at hy
      by_cases hne : listed.getD k false = decide (k < j)
      · exact hne
      · obtain ⟨_, h1, _⟩ := hfree k ok g1 hne
        rcases h1 with h1 | h1
        · exact absurd ht ((Oper.apart_spec h1).1 t hy)
        · exact absurd ht ((Oper.apart_spec h1).2.2 t hy)
    have hheap : ∀ id ∈ e.rd, (foldE (fun q => listed.getD q false) 0 xs s0).2 id = (foldE (fun q => decide (q < j)) 0 xs s0).2 id := by
      intro id hid
      refine foldE_heap xs 0 _ _ rfl fun k y hk hy => ?_
      rw [Nat.zero_add]
      obtain ⟨ok, g1, _⟩ := hop k y hk
      by_cases hne : listed.getD k false = decide (k < j)
      · exact hne
      · obtain ⟨_, _, h1, _⟩ := hfree k ok g1 hne
        exact absurd hid (hcov k j y _ hk he1 h1 id hy).2
    unfold opA at he2 ⊢
    have hw : wantedA ops.toList (foldE (fun q => listed.getD q false) 0 xs s0).1 o = wantedA ops.toList (foldE (fun q => decide (q < j)) 0 xs s0).1 o := by
      unfold wantedA
      split
      · rfl
      · rename_i g want hg
        split
        · rename_i d hd'
          rw [hslots d (by
            unfold Oper.looksAt
            rw [hg]
            rw [Array.getElem?_toList] at hd'
            simp [hd'])]
        · rfl
    rw [hw]
    split at he2
    · rename_i hwt
      refine eff_heap ?_ hheap
      rw [← he2]
      refine (eff_slots fun t ht => ?_)
      exact hslots t (List.mem_append_left _ (List.mem_filterMap.2 ⟨.tmp t, by simpa using ht, rfl⟩))
    · exact he2
    · cases he2
  · obtain ⟨ok, g1, g2, _⟩ := hop k y hk
    obtain ⟨_, h1, _, h2⟩ := hfree k ok g1 (by rw [hl]; simp; omega)
    refine ⟨fun t ht => ?_, fun id hid => (hcov j k _ y he1 hk h2 id hid).1⟩
    rw [g2]
    rcases h1 with h1 | h1
    · exact fun e => (Oper.apart_spec h1).2.1 t e ht
    · exact (Oper.apart_spec h1).2.1 t ht

theorem any_ok [B : Use] (hT : TabOk P T) (hG : GOk P G) {n : Nat} {xs : List (Option Nat × Eff)} {s0 : SH} {log : Log} {Q : Exit → Act → World → Prop} (hc : ChkD DT ops) (hlen : xs.length = ops.size) (hdr : drawB DT log = true)
    (hx : ∀ (k : Nat) o, ops.toList[k]? = some o → ∃ e, xs[k]? = some (o.dst, e) ∧ opA T G ops.toList n k o (foldE (fun q => decide (q < k)) 0 xs s0).1 (foldE (fun q => decide (q < k)) 0 xs s0).2 = some e ∧ logAt log k = (e.ups.map (·.1), e.rd))
    (hN : ∀ o ∈ ops, ∀ t, o.dst = some t → t < N) (hQ : ∀ a w L, Mid w0 L0 hpB N (ltN (n + ops.size)) (foldE (fun _ => true) 0 xs s0) a w L → Q .normal a w) :
    ∀ (fuel : Nat) (listed : Array Bool) (a : Act) (w : World) (L : Lab), listed.size = ops.size → Down ops listed → listed.toList.count false ≤ fuel → Mid w0 L0 hpB N (usedU n listed) (foldE (fun q => listed.getD q false) 0 xs s0) a w L →
      wpAny P .any ops Q fuel listed a w := by
  intro fuel
  induction fuel with
  | zero =>
    intro listed a w L hz hd hcnt hm
    have hall : ∀ j, j < ops.size → listed.getD j false = true := by
      intro j hj
      have hj' : j < listed.size := by omega
      have h0 := List.count_eq_zero.1 (Nat.le_zero.1 hcnt)
      cases hl : listed.getD j false with
      | true => rfl
      | false =>
        exfalso
        refine h0 ?_
        rw [Array.getD_eq_getD_getElem?, Array.getElem?_eq_getElem hj'] at hl
        simp at hl
        rw [← hl]
        simp
    have hr : Region.ready .any ops listed = [] := by
      rw [List.eq_nil_iff_forall_not_mem]
      intro j hj
      rw [mem_ready] at hj
      obtain ⟨h0, o, ho, _⟩ := hj
      have hlt := (Array.getElem?_eq_some_iff.1 ho).1
      have := hall j hlt
      have hj' : j < listed.size := by omega
      simp only [Array.getD, hj', dif_pos] at h0 this
      rw [this] at h0; cases h0
    refine ⟨hr, hQ a w L ?_⟩
    have e1 : usedU n listed = ltN (n + ops.size) := by
      funext k
      simp only [usedU, ltN, eq_iff_iff]
      constructor
      · rintro (h | ⟨i, h1, h2⟩)
        · omega
        · rcases Nat.lt_or_ge i listed.size with h' | h'
          · omega
          · simp [Array.getD, show ¬ i < listed.size from by omega] at h2
      · intro h
        rcases Nat.lt_or_ge k n with h' | h'
        · exact .inl h'
        · exact .inr ⟨k - n, by omega, hall _ (by omega)⟩
    rw [e1] at hm
    rw [foldE_ext (S' := fun _ => true) xs 0 s0 fun j hj => by rw [Nat.zero_add]; exact hall j (by omega)] at hm
    exact hm
  | succ fuel ih =>
    intro listed a w L hz hd hcnt hm
    refine ⟨fun hr => ?_, fun j hj => ?_⟩
    · have hall := ready_nil hc hz hr
      refine hQ a w L ?_
      have e1 : usedU n listed = ltN (n + ops.size) := by
        funext k
        simp only [usedU, ltN, eq_iff_iff]
        constructor
        · rintro (h | ⟨i, h1, h2⟩)
          · omega
          · rcases Nat.lt_or_ge i listed.size with h' | h'
            · omega
            · simp [Array.getD, show ¬ i < listed.size from by omega] at h2
        · intro h
          rcases Nat.lt_or_ge k n with h' | h'
          · exact .inl h'
          · exact .inr ⟨k - n, by omega, hall _ (by omega)⟩
      rw [e1] at hm
      rw [foldE_ext (S' := fun _ => true) xs 0 s0 fun j hj => by rw [Nat.zero_add]; exact hall j (by omega)] at hm
      exact hm
    · obtain ⟨hun, o, ho, hall⟩ := mem_ready.1 hj
      have hlt : j < ops.size := (Array.getElem?_eq_some_iff.1 ho).1
      have hj' : j < listed.size := by omega
      have hun' : listed.getD j false = false := by
        simp only [Array.getD, hj', dif_pos] at hun ⊢
        exact hun
      obtain ⟨e, h1, h2, h3⟩ := ready_eff hc hlen hd hdr hx ho hun' hall
      have hset : ∀ q, (listed.setIfInBounds j true).getD q false = if q = j then true else listed.getD q false := by
        intro q
        by_cases hq : q = j
        · subst hq; simp [Array.getD_eq_getD_getElem?, Array.getElem?_setIfInBounds_self_of_lt hj']
        · rw [if_neg hq]; exact getD_set_ne false fun e => hq e.symm
      have hU : usedU n (listed.setIfInBounds j true) = addU (usedU n listed) (n + j) := by
        funext k
        simp only [usedU, addU, eq_iff_iff]
        constructor
        · rintro (h | ⟨i, h4, h5⟩)
          · exact .inl (.inl h)
          · rw [hset] at h5
            by_cases hij : i = j
            · subst hij; exact .inr h4
            · rw [if_neg hij] at h5; exact .inl (.inr ⟨i, h4, h5⟩)
        · rintro ((h | ⟨i, h4, h5⟩) | h)
          · exact .inl h
          · refine .inr ⟨i, h4, ?_⟩
            rw [hset]
            split
            · rfl
            · exact h5
          · exact .inr ⟨j, h, by rw [hset, if_pos rfl]⟩
      have hfold : foldE (fun q => (listed.setIfInBounds j true).getD q false) 0 xs s0 = appE o.dst e (foldE (fun q => listed.getD q false) 0 xs s0) := by
        refine foldE_add (j := j) hun' (by rw [hset, if_pos rfl]) (fun i hi => by rw [hset, if_neg hi]) xs 0 (o.dst, e) s0 (Nat.zero_le _) (by simpa using h1) fun k y hk hjk hl => ?_
        rw [Nat.zero_add] at hjk hl
        exact h3 k y hk hjk hl
      have hmN : ¬ usedU n listed (n + j) := by
        rintro (h | ⟨i, h4, h5⟩)
        · omega
        · have : i = j := by omega
          subst this
          rw [hun'] at h5; cases h5
      have hd' : Down ops (listed.setIfInBounds j true) := by
        intro q oq hq hoq e' he' hb
        rw [hset] at hq ⊢
        split
        · rfl
        · split at hq
          · rename_i hqj
            subst hqj
            rw [ho] at hoq
            cases hoq
            exact hall e' he' hb
          · exact hd q oq hq hoq e' he' hb
      have hcnt' : (listed.setIfInBounds j true).toList.count false ≤ fuel := by
        have := count_set_true listed.toList j (by
          rw [Array.getElem?_toList, Array.getElem?_eq_getElem hj']
          simp [Array.getD, hj'] at hun'
          rw [hun'])
        rw [Array.toList_setIfInBounds]
        omega
      have hdt : ∀ t, o.dst = some t → t < a.tmps.size := fun t ht => by rw [hm.size]; exact hN o (Array.mem_of_getElem? ho) t ht
      have next : ∀ v w' L', HRel w0 L0 (addU (usedU n listed) (n + j)) (applyH (foldE (fun q => listed.getD q false) 0 xs s0).2 e.ups) w' L' →
          Keeps (usedU n listed) w L (foldE (fun q => listed.getD q false) 0 xs s0).2 (addU (usedU n listed) (n + j)) w' L' (applyH (foldE (fun q => listed.getD q false) 0 xs s0).2 e.ups) →
          Rep (addU (usedU n listed) (n + j)) w' L' (applyH (foldE (fun q => listed.getD q false) 0 xs s0).2 e.ups) e.val v →
          wpAny P .any ops Q fuel (listed.setIfInBounds j true) (a.put o.dst v) w' := by
        intro v w' L' g1 g2 g3
        refine ih (listed.setIfInBounds j true) (a.put o.dst v) w' L' (by simp [hz]) hd' hcnt' ?_
        rw [hU, hfold]
        exact ⟨g1, slots_put (fun t => Rep.mono g2 _ _ (hm.s t)) o.dst hdt g3, by rw [put_size, hm.size], by rw [put_defers, hm.defers], hm.keeps.trans g2⟩
      unfold wpOp
      rw [ho]
      simp only
      unfold opA at h2
      split at h2
      · rename_i hw
        have hwant := wanted_ok hm.s hw
        rw [if_pos hwant]
        exact .inl (eff_ok hT hG hm.h hm.s hmN h2 _ _ next)
      · rename_i hw
        have hwant := wanted_ok hm.s hw
        cases h2
        rw [if_neg (by simp [hwant])]
        refine next undef w L (hm.h.mono fun k hk' => .inl hk') (keeps_ups [] (by simp) fun k hk => .inl hk) ?_
        simp only [Eff.pure, Rep]
        exact ⟨#[], rfl, by simp [RepL]⟩
      · cases h2

theorem own_drawn [Use] {w : World} {L : Lab} {d : Nat} {a : A} {id : Id} {p : List Nat} {u : Value} (h : Own w L a id p u) : Own { w with drawn := d } L a id p u :=
  Own.move (w := w) (w' := { w with drawn := d }) (fun b hb => ⟨hb, rfl⟩) a p p u (fun b q hb => ⟨hb, rfl⟩) h

theorem keeps_drawn [Use] {U : Nat → Prop} {w : World} {L : Lab} {hp : Hp} {d : Nat} : Keeps U w L hp U { w with drawn := d } L hp :=
  ⟨fun _ h => h, fun _ h => ⟨h, rfl⟩, fun _ r h _ => ⟨r, h, fun _ => Nat.le_refl _⟩, fun _ _ _ _ _ h => ⟨h, fun _ hb => ⟨hb, fun cur _ hc => ⟨cur, hc, rfl⟩⟩⟩⟩

theorem hrel_drawn [Use] {U : Nat → Prop} {hp : Hp} {w : World} {L : Lab} {d : Nat} (h : HRel w0 L0 U hp w L) : HRel w0 L0 U hp { w with drawn := d } L :=
  ⟨fun id r hr => (h.roots id r hr).imp fun u hu => own_drawn hu, h.inj, h.free, h.used, h.usedR, h.prot, h.size, h.os, h.tape, h.output, h.use, h.frz⟩

theorem draw_ok [B : Use] {DT : Nat → List (Nat × Nat)} (hm : P.follows .mixedOrders = true) (hT : TabOk P T) (hG : GOk P G) : DrawOk P T G DT (fun id ops => chkD (DT id) ops) N w0 L0 hpB := by
  intro id ops st sl hp log a w L Q hok hrun hdr hat hQ
  refine wp_region_any hm ?_
  obtain ⟨xs, h1, h2, h3, h4⟩ := runOps_effs ops.toList 0 st.sl st.hp [] hrun
  simp only [okC, Bool.and_eq_true, Bool.not_true, Bool.false_or, List.all_eq_true] at hok
  have hlist : ∀ q, (Array.replicate ops.size false).getD q false = false := by
    intro q
    simp only [Array.getD]
    split <;> simp
  refine any_ok (DT := DT id) (N := N) (w0 := w0) (L0 := L0) (hpB := hpB) (n := st.n) (xs := xs) (s0 := (st.sl, st.hp)) hT hG (chkD_spec hok.2) (by simpa using h1) hdr (fun k o hk => by
      obtain ⟨e, g1, g2, g3⟩ := h2 k o hk
      rw [Nat.zero_add] at g2 g3
      exact ⟨e, g1, g2, g3⟩)
    (fun o ho t ht => ?_) (fun a' w' L' hm' => ?_) ops.size _ a _ L (by simp) (fun j oj hj => ?_) (by simp) ?_
  · have := hok.1 o (by simpa using ho)
    rw [ht] at this
    simpa using this
  · rw [← h3] at hm'
    exact hQ a' w' L' ⟨by simpa using hm'.h, by simpa using hm'.s, hm'.size, hm'.defers, by simpa using hm'.keeps⟩
  · rw [hlist] at hj; cases hj
  · have e1 : usedU st.n (Array.replicate ops.size false) = ltN st.n := by
      funext k
      simp only [usedU, ltN, eq_iff_iff]
      constructor
      · rintro (h | ⟨i, _, h⟩)
        · exact h
        · rw [hlist] at h; cases h
      · exact .inl
    rw [foldE_none _ _ _ fun j _ => hlist j, e1]
    exact ⟨hrel_drawn hat.h, fun t => Rep.mono keeps_drawn _ _ (hat.s t), hat.size, hat.defers, hat.keeps.trans keeps_drawn⟩

end
end Go.TM
