/- The tree machine, part C. -/
import Derived.Test.YtbpfagbihffmbaaTmB
import Derived.Orders

/-! The tree machine, 20: the code. -/
namespace Go.TM
set_option linter.unusedVariables false
set_option linter.unusedSimpArgs false

/-- What is checked of the code: the regions' destinations are in the frame; 'chk' for those that draw their order. -/
def okC (chk : Nat → Array Oper → Bool) (N : Nat) : Code → Bool
  | .region id ops draw => ops.toList.all (fun o => match o.dst with | some t => decide (t < N) | none => true) && (!draw || chk id ops)
  | .seq x y => okC chk N x && okC chk N y
  | .cond _ x y => okC chk N x && okC chk N y
  | .block _ c => okC chk N c
  | .loop c => okC chk N c
  | _ => true

/-- The frame and the world are as the abstract state says; what was held at the beginning is kept. -/
structure At [Use] (w0 : World) (L0 : Lab) (hpB : Hp) (N : Nat) (st : St) (a : Act) (w : World) (L : Lab) : Prop where
  h : HRel w0 L0 (ltN st.n) st.hp w L
  s : Slots (ltN st.n) w L st.hp st.sl a.tmps
  size : a.tmps.size = N
  defers : a.defers = []
  keeps : Keeps (ltN 3) w0 L0 hpB (ltN st.n) w L st.hp

def DrawOk [Use] (P : Program) (T : Nat → Option TI) (G : Nat → Option FM) (DT : Nat → List (Nat × Nat)) (chk : Nat → Array Oper → Bool) (N : Nat) (w0 : World) (L0 : Lab) (hpB : Hp) : Prop :=
  ∀ id ops st sl hp log a w L (Q : Exit → Act → World → Prop), okC chk N (.region id ops true) = true → runOps T G ops.toList st.n 0 ops.toList st.sl st.hp [] = some (sl, hp, log) → drawB (DT id) log = true → At w0 L0 hpB N st a w L →
    (∀ a' w' L', At w0 L0 hpB N ⟨sl, hp, st.n + ops.toList.length⟩ a' w' L' → Q .normal a' w') → (Code.region id ops true).wp P Q a w

theorem least_ex {p : Nat → Prop} : ∀ (n : Nat), p n → ∃ k, p k ∧ ∀ j, p j → k ≤ j := by
  intro n
  induction n using Nat.strongRecOn with
  | _ n ih =>
    intro hp
    by_cases h : ∃ j, j < n ∧ p j
    · obtain ⟨j, h1, h2⟩ := h
      exact ih j h1 h2
    · exact ⟨n, hp, fun j hj => Nat.le_of_not_lt fun hlt => h ⟨j, hlt, hj⟩⟩

open Classical in
noncomputable def leastOf (p : Nat → Prop) : Nat := if h : ∃ k, p k ∧ ∀ j, p j → k ≤ j then h.choose else 0

theorem leastOf_spec {p : Nat → Prop} (h : ∃ n, p n) : p (leastOf p) ∧ ∀ j, p j → leastOf p ≤ j := by
  obtain ⟨n, hn⟩ := h
  have h' := least_ex n hn
  unfold leastOf
  rw [dif_pos h']
  exact h'.choose_spec

theorem W_ok [Use] {P : Program} {T : Nat → Option TI} {G : Nat → Option FM} {DT : Nat → List (Nat × Nat)} {chk : Nat → Array Oper → Bool} {N : Nat} {w0 : World} {L0 : Lab} {hpB : Hp} (hT : TabOk P T) (hG : GOk P G) (hdraw : DrawOk P T G DT chk N w0 L0 hpB) :
    ∀ (c : Code) (Q : Exit → St → Prop) (Qc : Exit → Act → World → Prop) (st : St) (a : Act) (w : World) (L : Lab), okC chk N c = true → W T G DT c Q st → At w0 L0 hpB N st a w L →
      (∀ e st' a' w' L', Q e st' → At w0 L0 hpB N st' a' w' L' → Qc e a' w') → c.wp P Qc a w := by
  intro c
  induction c with
  | skip => intro Q Qc st a w L hk hw h hq; exact wp_skip (hq _ st a w L hw h)
  | exit id => intro Q Qc st a w L hk hw h hq; exact wp_exit (hq _ st a w L hw h)
  | ret => intro Q Qc st a w L hk hw h hq; exact wp_ret (hq _ st a w L hw h)
  | seq x y ihx ihy =>
    intro Q Qc st a w L hk hw h hq
    simp only [okC, Bool.and_eq_true] at hk
    refine wp_seq (ihx _ _ st a w L hk.1 hw h fun e st' a' w' L' h1 h2 => ?_)
    cases e with
    | normal => exact ihy Q Qc st' a' w' L' hk.2 h1 h2 hq
    | _ => exact hq _ st' a' w' L' h1 h2
  | cond c x y ihx ihy =>
    intro Q Qc st a w L hk hw h hq
    simp only [okC, Bool.and_eq_true] at hk
    simp only [W] at hw
    split at hw
    · rename_i v hv
      have := rep_ev (T := T) h.s 0 c
      rw [hv] at this
      simp only [Rep] at this
      exact wp_cond_split this (fun e => ihx Q Qc st a w L hk.1 (hw.1 e) h hq) fun e => ihy Q Qc st a w L hk.2 (hw.2 e) h hq
    · rename_i hv
      have := rep_ev (T := T) h.s 0 c
      rw [hv] at this
      simp only [Rep] at this
      obtain ⟨v, this⟩ := this
      exact wp_cond_split this (fun e => ihx Q Qc st a w L hk.1 hw.1 h hq) fun e => ihy Q Qc st a w L hk.2 hw.2 h hq
    · exact hw.elim
  | block id c ih =>
    intro Q Qc st a w L hk hw h hq
    refine wp_block (ih _ _ st a w L hk hw h fun e st' a' w' L' h1 h2 => ?_)
    cases e with
    | exit id' =>
      simp only [inBlockA] at h1
      simp only [Exit.inBlock]
      split
      · rename_i e; rw [if_pos e] at h1; exact hq _ st' a' w' L' h1 h2
      · rename_i e; rw [if_neg e] at h1; exact hq _ st' a' w' L' h1 h2
    | _ => exact hq _ st' a' w' L' h1 h2
  | region id ops draw =>
    intro Q Qc st a w L hk hw h hq
    simp only [W] at hw
    split at hw
    · rename_i sl hp log hr
      cases draw with
      | true => exact hdraw id ops st sl hp log a w L Qc hk hr (hw.1 rfl) h fun a' w' L' h' => hq _ _ a' w' L' hw.2 h'
      | false =>
        refine wp_region_list (runOps_ok hT hG ops.toList 0 st.sl st.hp [] a w L hr h.h h.s h.size (fun o ho t ht => ?_) fun a' w' L' h1 h2 h3 h4 h5 => hq _ _ a' w' L' hw.2 ⟨h1, h2, h3, by rw [h4, h.defers], h.keeps.trans h5⟩)
        simp only [okC, Bool.and_eq_true, List.all_eq_true] at hk
        have := hk.1 o ho
        rw [ht] at this
        simpa using this
    · exact hw.elim
  | loop c ih =>
    intro Q Qc st a w L hk hw h hq
    simp only [W] at hw
    obtain ⟨I, μ, hI, hround⟩ := hw
    refine wp_loop (fun a w => ∃ st L, I st ∧ At w0 L0 hpB N st a w L) (fun a w => leastOf fun n => ∃ st L, μ st = n ∧ I st ∧ At w0 L0 hpB N st a w L) ⟨st, L, hI, h⟩ fun a w ⟨st0, L0', g1, g2⟩ => ?_
    obtain ⟨⟨st1, L1, e1, e2, e3⟩, _⟩ := leastOf_spec (p := fun n => ∃ st L, μ st = n ∧ I st ∧ At w0 L0 hpB N st a w L) ⟨μ st0, st0, L0', rfl, g1, g2⟩
    refine ih _ _ st1 a w L1 hk (hround st1 e2) e3 fun e st' a' w' L' h1 h2 => ?_
    cases e with
    | normal =>
      refine ⟨⟨st', L', h1.1, h2⟩, ?_⟩
      have := (leastOf_spec (p := fun n => ∃ st L, μ st = n ∧ I st ∧ At w0 L0 hpB N st a' w' L) ⟨μ st', st', L', rfl, h1.1, h2⟩).2 (μ st') ⟨st', L', rfl, h1.1, h2⟩
      have := h1.2
      omega
    | _ => exact hq _ st' a' w' L' h1 h2
  | _ => intro Q Qc st a w L hk hw h hq; exact hw.elim

end Go.TM

/-! The tree machine, 19: an operation looks only at what it names. -/
namespace Go.TM
set_option linter.unusedVariables false
set_option linter.unusedSimpArgs false

section
variable {T : Nat → Option TI} {G : Nat → Option FM} {hp hp' : Hp} {m : Nat}

theorem node_congr {id : Id} {p : List Nat} {v : Nat} (h : hp' id = hp id) : node hp' id p v = node hp id p v := by unfold node; rw [h]

theorem applyH_congr {id : Id} (h : hp' id = hp id) (us : List (Id × Option Root)) : applyH hp' us id = applyH hp us id := by
  induction us generalizing hp hp' with
  | nil => exact h
  | cons u us ih =>
    refine ih (hp := upd hp u.1 u.2) (hp' := upd hp' u.1 u.2) ?_
    unfold upd
    split
    · rfl
    · exact h

theorem loadA_congr {ti : TI} {x : A} {e : Eff} (he : loadA ti hp x = some e) (h : ∀ id ∈ e.rd, hp' id = hp id) : loadA ti hp' x = some e := by
  unfold loadA at he ⊢
  split at he
  · rename_i id path ver off
    split at he
    · rename_i sz len cs r hn hr
      split at he
      · rename_i hc
        simp only [Option.map_eq_some_iff] at he
        obtain ⟨v, h1, h2⟩ := he
        cases h2
        have := h id (by simp)
        simp only [node_congr this, this, hn, hr, if_pos hc, h1, Option.map_some]
      · cases he
    · cases he
  · exact he
  · cases he

theorem close1_congr {x c : A} {us : List (Id × Option Root)} {rd : List Id} (he : close1 hp x = some (c, us, rd)) (h : ∀ id ∈ rd, hp' id = hp id) : close1 hp' x = some (c, us, rd) := by
  unfold close1 at he ⊢
  split at he
  · exact he
  · exact he
  · exact he
  · exact he
  · rename_i id path ver off sz len
    split at he
    · cases he
    · rename_i r hr
      split at he
      · rename_i hc
        split at he
        · rename_i sz' len' cs' hg
          split at he
          · rename_i hc2
            cases he
            have := h id (by simp)
            simp only [this, hr, if_pos hc, hg, if_pos hc2]
          · cases he
        · cases he
      · cases he
  · cases he

theorem closeL_congr : ∀ {vs cs : List A} {us : List (Id × Option Root)} {rd : List Id} {hp hp' : Hp}, closeL hp vs = some (cs, us, rd) → (∀ id ∈ rd, hp' id = hp id) → closeL hp' vs = some (cs, us, rd)
  | [], _, _, _, _, _, he, _ => he
  | v :: vs, cs, us, rd, hp, hp', he, h => by
    unfold closeL at he ⊢
    split at he
    · cases he
    · rename_i c u rd1 h1
      split at he
      · cases he
      · rename_i cs1 us1 rds1 h2
        cases he
        rw [close1_congr h1 fun id hid => h id (by simp [hid])]
        simp only
        rw [closeL_congr h2 fun id hid => applyH_congr (h id (by simp [hid])) u]

theorem storeA_congr {ti : TI} {x v : A} {e : Eff} (he : storeA ti hp x v = some e) (h : ∀ id ∈ e.rd, hp' id = hp id) : storeA ti hp' x v = some e := by
  unfold storeA at he ⊢
  split at he
  · rename_i id path ver off
    split at he
    · rename_i sz len cs cs' us rd hn hcl
      split at he
      · rename_i hc
        split at he
        · cases he
        · rename_i r hr
          cases he
          have := h id (by simp)
          simp only [node_congr this, hn, closeL_congr hcl fun id hid => h id (by simp [hid]), if_pos hc, this, hr]
      · cases he
    · cases he
  · cases he

theorem srcOf_congr {flat : Bool} {sz : Nat} {x : A} {cs : List A} {n : Nat} {us : List (Id × Option Root)} {rd : List Id} (he : srcOf hp flat sz x = some (cs, n, us, rd)) (h : ∀ id ∈ rd, hp' id = hp id) : srcOf hp' flat sz x = some (cs, n, us, rd) := by
  unfold srcOf at he ⊢
  split at he
  · exact he
  · rename_i id path ver off sz' len
    split at he
    · rename_i nsz nlen cs' r hn hr
      split at he
      · rename_i hc
        have hid : id ∈ rd := by
          split at he
          · cases he; simp
          · split at he
            · cases he; simp
            · cases he
        have := h id hid
        simp only [node_congr this, this, hn, hr, if_pos hc]
        exact he
      · cases he
    · cases he
  · cases he

theorem dstOf_congr {sz : Nat} {x : A} {cs : List A} {n : Nat} {us : List (Id × Option Root)} {rd : List Id} (he : dstOf hp sz x = some (cs, n, us, rd)) (h : ∀ id ∈ rd, hp' id = hp id) : dstOf hp' sz x = some (cs, n, us, rd) := by
  unfold dstOf at he ⊢
  split at he
  · exact he
  · rename_i id path ver off sz' len
    split at he
    · rename_i nsz nlen cs' r hn hr
      split at he
      · rename_i hc
        cases he
        have := h id (by simp)
        simp only [node_congr this, this, hn, hr, if_pos hc]
      · cases he
    · cases he
  · cases he

theorem snap1_congr {x c : A} {rd : List Id} (he : snap1 hp x = some (c, rd)) (h : ∀ id ∈ rd, hp' id = hp id) : snap1 hp' x = some (c, rd) := by
  unfold snap1 at he ⊢
  split at he
  · exact he
  · exact he
  · exact he
  · rename_i id path ver off sz len
    split at he
    · rename_i nsz nlen cs' hn
      split at he
      · rename_i hc
        cases he
        have := h id (by simp)
        simp only [node_congr this, hn, if_pos hc]
      · cases he
    · cases he
  · cases he

theorem snapL_congr : ∀ {vs cs : List A} {rd : List Id}, snapL hp vs = some (cs, rd) → (∀ id ∈ rd, hp' id = hp id) → snapL hp' vs = some (cs, rd)
  | [], _, _, he, _ => he
  | v :: vs, cs, rd, he, h => by
    unfold snapL at he ⊢
    split at he
    · rename_i c rd1 cs1 rds1 h1 h2
      cases he
      rw [snap1_congr h1 fun id hid => h id (by simp [hid]), snapL_congr h2 fun id hid => h id (by simp [hid])]
    · cases he

theorem snap_congr {x c : A} {rd : List Id} (he : snap hp x = some (c, rd)) (h : ∀ id ∈ rd, hp' id = hp id) : snap hp' x = some (c, rd) := by
  unfold snap at he ⊢
  split at he
  · simp only [Option.map_eq_some_iff] at he ⊢
    obtain ⟨⟨cs, rd'⟩, h1, h2⟩ := he
    cases h2
    exact ⟨_, snapL_congr h1 h, rfl⟩
  · exact snap1_congr he h

theorem lnCell_congr {v c : A} {es : List (Id × List Nat)} (he : lnCell hp v = some (c, es)) (h : ∀ id ∈ es.map (·.1), hp' id = hp id) : lnCell hp' v = some (c, es) := by
  unfold lnCell at he ⊢
  split at he
  · exact he
  · exact he
  · rename_i id path ver off sz len
    split at he
    · rename_i nsz nlen cs hn
      split at he
      · rename_i hc
        cases he
        have := h id (by simp)
        simp only [node_congr this, hn, if_pos hc]
      · cases he
    · cases he
  · cases he

theorem lnCells_congr : ∀ {vs cs : List A} {es : List (Id × List Nat)}, lnCells hp vs = some (cs, es) → (∀ id ∈ es.map (·.1), hp' id = hp id) → lnCells hp' vs = some (cs, es)
  | [], _, _, he, _ => he
  | v :: vs, cs, es, he, h => by
    unfold lnCells at he ⊢
    split at he
    · rename_i c e cs' es' h1 h2
      cases he
      rw [lnCell_congr h1 fun id hid => h id (by simp only [List.map_append, List.mem_append]; exact .inl hid), lnCells_congr h2 fun id hid => h id (by simp only [List.map_append, List.mem_append]; exact .inr hid)]
    · cases he

theorem lnVal_congr {v c : A} {es : List (Id × List Nat)} (he : lnVal hp v = some (c, es)) (h : ∀ id ∈ es.map (·.1), hp' id = hp id) : lnVal hp' v = some (c, es) := by
  unfold lnVal at he ⊢
  split at he
  · simp only [Option.map_eq_some_iff] at he ⊢
    obtain ⟨⟨cs, es'⟩, h1, h2⟩ := he
    cases h2
    exact ⟨_, lnCells_congr h1 h, rfl⟩
  · exact lnCell_congr he h

theorem contsOf_congr : ∀ {ks : List Kind} {vs cs xs : List A} {rds : List Id} {ios : List (Id × List Nat)}, contsOf hp ks vs cs = some (xs, rds, ios) → (∀ id ∈ rds ++ ios.map (·.1), hp' id = hp id) → contsOf hp' ks vs cs = some (xs, rds, ios)
  | [], [], [], _, _, _, he, _ => he
  | .ro :: ks, v :: vs, cs, xs, rds, ios, he, h => by
    unfold contsOf at he ⊢
    split at he
    · rename_i c rd xs1 rds1 ios1 h1 h2
      cases he
      rw [snap_congr h1 fun id hid => h id (by simp [hid]), contsOf_congr h2 fun id hid => h id (by simp only [List.append_assoc, List.mem_append] at hid ⊢; exact .inr hid)]
    · cases he
  | .mv :: ks, v :: vs, c :: cs, xs, rds, ios, he, h => by
    simp only [contsOf, Option.map_eq_some_iff] at he ⊢
    obtain ⟨⟨xs1, rds1, ios1⟩, h1, h2⟩ := he
    cases h2
    exact ⟨_, contsOf_congr h1 h, rfl⟩
  | .mv :: ks, v :: vs, [], xs, rds, ios, he, h => by simp [contsOf] at he
  | .io :: ks, v :: vs, cs, xs, rds, ios, he, h => by
    simp only [contsOf] at he ⊢
    split at he
    · rename_i id ver
      split at he
      · rename_i r hr
        split at he
        · rename_i hc
          simp only [Option.map_eq_some_iff] at he
          obtain ⟨⟨xs1, rds1, ios1⟩, h1, h2⟩ := he
          cases h2
          have := h id (by simp)
          simp only [this, hr, if_pos hc]
          rw [contsOf_congr h1 fun id' hid => h id' (by simp only [List.map_cons, List.mem_append, List.mem_cons] at hid ⊢; rcases hid with hid | hid; exact .inl hid; exact .inr (.inr hid))]
          rfl
        · cases he
      · cases he
    · cases he
  | .ln n :: ks, v :: vs, cs, xs, rds, ios, he, h => by
    simp only [contsOf] at he ⊢
    split at he
    · rename_i c es hv
      split at he
      · rename_i hn
        simp only [Option.map_eq_some_iff] at he
        obtain ⟨⟨xs1, rds1, ios1⟩, h1, h2⟩ := he
        cases h2
        rw [lnVal_congr hv fun id hid => h id (by simp only [List.map_append, List.mem_append]; exact .inr (.inl hid))]
        simp only [if_pos hn]
        rw [contsOf_congr h1 fun id' hid => h id' (by simp only [List.map_append, List.mem_append] at hid ⊢; rcases hid with hid | hid; exact .inl hid; exact .inr (.inr hid))]
        rfl
      · cases he
    · cases he
  | [], _ :: _, _, _, _, _, he, _ => by simp [contsOf] at he
  | [], [], _ :: _, _, _, _, he, _ => by simp [contsOf] at he
  | .ro :: _, [], _, _, _, _, he, _ => by simp [contsOf] at he
  | .mv :: _, [], _, _, _, _, he, _ => by simp [contsOf] at he
  | .io :: _, [], _, _, _, _, he, _ => by simp [contsOf] at he
  | .ln _ :: _, [], _, _, _, _, he, _ => by simp [contsOf] at he

theorem outsOf_congr : ∀ {ios : List (Id × List Nat)} {outs : List (List A)} {us : List (Id × Option Root)}, outsOf hp ios outs = some us → (∀ id ∈ ios.map (·.1), hp' id = hp id) → outsOf hp' ios outs = some us
  | [], [], _, he, _ => he
  | e :: es, cs :: outs, us, he, h => by
    unfold outsOf at he ⊢
    split at he
    · rename_i r us1 h1 h2
      rw [h e.1 (by simp), h1, outsOf_congr h2 fun id' hid => h id' (by simp only [List.map_cons, List.mem_cons]; exact .inr hid)]
      exact he
    · cases he
  | [], _ :: _, _, he, _ => by cases he
  | _ :: _, [], _, he, _ => by cases he

theorem lendA_congr {M : Model} {r : A} {k v : Int} {id : Id} {rt : Root} (he : lendA hp M r k = some (v, id, rt)) (h : hp' id = hp id) : lendA hp' M r k = some (v, id, rt) := by
  unfold lendA at he ⊢
  split at he
  · rename_i c e hln
    split at he
    · rename_i v' cs r0 hM hr0
      split at he
      · rename_i x hx
        split at he
        · rename_i hc
          cases he
          rw [lnVal_congr hln fun id hid => by simp at hid; rw [hid]; exact h]
          simp only [hM, h, hr0, hx, if_pos hc]
        · cases he
      · cases he
    · cases he
  · cases he

theorem eachA_congr {M : Model} {xs : List A} : ∀ {js : List Nat} {k : Int} {hp hp' : Hp} {e : Eff}, eachA M xs js k hp = some e → (∀ id ∈ e.rd, hp' id = hp id) → eachA M xs js k hp' = some e
  | [], _, _, _, _, he, _ => he
  | j :: js, k, hp, hp', e, he, h => by
    unfold eachA at he ⊢
    split at he
    · rename_i r hr
      split at he
      · rename_i v id rt hl
        rw [Option.map_eq_some_iff] at he
        obtain ⟨e1, h1, h2⟩ := he
        subst h2
        have hid : hp' id = hp id := h id (by simp)
        have h3 := eachA_congr (hp' := upd hp' id (some rt)) h1 fun i hi => by
          by_cases hii : i = id
          · subst hii; rw [upd_same, upd_same]
          · rw [upd_ne _ _ _ _ hii, upd_ne _ _ _ _ hii]
            exact h i (by simp [hi])
        simp only [hr, lendA_congr hl hid, h3, Option.map_some]
      · cases he
    · cases he

theorem eachC_congr {M : Model} {ar : Nat} {js : List Nat} {vs : List A} {e : Eff} (he : eachC M ar js hp vs = some e) (h : ∀ id ∈ e.rd, hp' id = hp id) : eachC M ar js hp' vs = some e := by
  unfold eachC at he ⊢
  split at he
  · split at he
    · rename_i hc
      rw [if_pos hc]
      exact eachA_congr he h
    · cases he
  · cases he

theorem callA_congr {f : Nat} {vs : List A} {e : Eff} (he : callA G m f vs hp = some e) (h : ∀ id ∈ e.rd, hp' id = hp id) : callA G m f vs hp' = some e := by
  unfold callA at he ⊢
  split at he
  · cases he
  · exact he
  · exact he
  · exact eachC_congr he h
  · rename_i M hf
    split at he
    · cases he
    · rename_i cs ups rd1 h1
      split at he
      · cases he
      · rename_i xs rds ios h2
        split at he
        · rename_i h3
          split at he
          · cases he
          · rename_i r outs h4
            split at he
            · cases he
            · rename_i us' h5
              cases he
              simp only at h
              rw [closeL_congr h1 fun id hid => h id (by simp [hid])]
              simp only
              rw [contsOf_congr h2 fun id hid => applyH_congr (h id (by simp only [List.mem_append] at hid ⊢; rcases hid with hid | hid; exact .inl (.inr hid); exact .inr hid)) ups]
              simp only [if_pos h3, h4]
              rw [outsOf_congr h5 fun id hid => applyH_congr (h id (by simp [hid])) ups]
        · cases he

end
end Go.TM

/-! The tree machine, 21: an operation looks only at what it names (whole). -/
namespace Go.TM
set_option linter.unusedVariables false
set_option linter.unusedSimpArgs false

section
variable {T : Nat → Option TI} {G : Nat → Option FM} {hp hp' : Hp} {m : Nat} {sl sl' : Nat → A}

theorem eff_heap {ty : Nat} {o : Op} {e : Eff} (he : eff T G m ty o sl hp = some e) (h : ∀ id ∈ e.rd, hp' id = hp id) : eff T G m ty o sl hp' = some e := by
  cases o with
  | load t x =>
    simp only [eff] at he ⊢
    split at he
    · exact loadA_congr he h
    · cases he
  | store t x v =>
    simp only [eff] at he ⊢
    split at he
    · exact storeA_congr he h
    · cases he
  | box t x =>
    simp only [eff] at he ⊢
    split at he
    · rename_i ti cs us rd h1 h2
      split at he
      · cases he
        rw [closeL_congr h2 h]
        simp_all
      · cases he
    · cases he
  | buildSlice t n ps =>
    simp only [eff] at he ⊢
    split at he
    · split at he
      · split at he
        · split at he
          · rename_i h2
            split at he
            · cases he
              rw [closeL_congr h2 h]
              simp_all
            · cases he
          · cases he
        · cases he
      · cases he
    · cases he
  | fieldAddr s x f =>
    simp only [eff] at he ⊢
    split at he
    · split at he
      · rename_i hx
        split at he
        · rename_i hn
          cases he
          have := h _ (List.mem_singleton.2 rfl)
          simp only [node_congr this, hn]
        · cases he
      · exact he
      · cases he
    · cases he
  | indexAddr t x ix =>
    simp only [eff] at he ⊢
    unfold indexAddrA at he ⊢
    split at he
    · split at he
      · rename_i hn
        split at he
        · rename_i hc
          cases he
          have := h _ (List.mem_singleton.2 rfl)
          simp only [node_congr this, hn, if_pos hc]
        · cases he
      · cases he
    · exact he
    · split at he
      · rename_i h1 hn
        split at he
        · rename_i hc
          cases he
          have := h _ (List.mem_singleton.2 rfl)
          simp only [node_congr this, h1, hn, if_pos hc]
        · cases he
      · cases he
    · cases he
  | nilCheck x =>
    simp only [eff] at he ⊢
    split at he
    · split at he
      · rename_i hn
        cases he
        have := h _ (List.mem_singleton.2 rfl)
        simp only [node_congr this, hn]
      · cases he
    · exact he
    · cases he
  | call c =>
    simp only [eff] at he ⊢
    split at he
    · exact he
    · exact he
    · split at he
      · split at he
        · split at he
          · split at he
            · split at he
              · rename_i h1
                split at he
                · rename_i h2
                  split at he
                  · rename_i hc
                    cases he
                    rw [srcOf_congr h1 fun id hid => h id (by simp [hid])]
                    simp only
                    rw [dstOf_congr h2 fun id hid => applyH_congr (h id (by simp [hid])) _]
                    simp only [if_pos hc]
                    simp_all
                  · cases he
                · cases he
              · cases he
            · cases he
          · cases he
        · cases he
      · cases he
    · exact callA_congr he h
    · cases he
  | _ => simpa only [eff] using he

end
end Go.TM

/-! The tree machine, 22: an operation looks only at its operands' slots. -/
namespace Go.TM
set_option linter.unusedVariables false
set_option linter.unusedSimpArgs false

section
variable {T : Nat → Option TI} {G : Nat → Option FM} {hp hp' : Hp} {m : Nat} {sl sl' : Nat → A}

theorem ev_congr {x : Operand} (ty : Nat) (h : ∀ t, x = .tmp t → sl' t = sl t) : ev T sl' ty x = ev T sl ty x := by
  cases x with
  | tmp t => exact h t rfl
  | _ => rfl

theorem evL_congr : ∀ (xs : List Operand) (ts : List Nat), (∀ t, Operand.tmp t ∈ xs → sl' t = sl t) → evL T sl' xs ts = evL T sl xs ts
  | [], ts, _ => by cases ts <;> rfl
  | x :: xs, [], h => by
    simp only [evL]
    rw [ev_congr 0 fun t ht => h t (by simp [ht]), evL_congr xs [] fun t ht => h t (by simp [ht])]
  | x :: xs, t :: ts, h => by
    simp only [evL]
    rw [ev_congr t fun t ht => h t (by simp [ht]), evL_congr xs ts fun t ht => h t (by simp [ht])]

theorem eff_slots {ty : Nat} {o : Op} (h : ∀ t, Operand.tmp t ∈ o.operands → sl' t = sl t) : eff T G m ty o sl' hp = eff T G m ty o sl hp := by
  have hv : ∀ x ∈ o.operands, ∀ ty, ev T sl' ty x = ev T sl ty x := fun x hx ty => ev_congr ty fun t ht => h t (by rw [← ht]; exact hx)
  cases o with
  | build t ps =>
    simp only [eff]
    have : ∀ f : Nat → Nat, (ps.toList.map fun p => (p.1, ev T sl' (f p.1) p.2)) = ps.toList.map fun p => (p.1, ev T sl (f p.1) p.2) := fun f => List.map_congr_left fun p hp => by
      rw [hv p.2 (by simp only [Op.operands, List.mem_toArray, List.mem_map]; exact ⟨p, hp, rfl⟩)]
    split
    · split
      · rename_i fs _
        rw [this fun i => (fs[i]?).elim 0 (·.2)]
      · rfl
    · rfl
  | buildSlice t n ps =>
    simp only [eff]
    split
    · rename_i el _
      have : (ps.toList.map fun p => (p.1, ev T sl' el p.2)) = ps.toList.map fun p => (p.1, ev T sl el p.2) := List.map_congr_left fun p hp => by
        rw [hv p.2 (by simp only [Op.operands, List.mem_toArray, List.mem_map]; exact ⟨p, hp, rfl⟩)]
      rw [this]
    · rfl
  | slice t x l hi mx =>
    have h1 : ev T sl' 0 x = ev T sl 0 x := hv x (by simp [Op.operands]) 0
    have h2 : l.map (ev T sl' 0) = l.map (ev T sl 0) := by cases l with
      | none => rfl
      | some y => simp only [Option.map_some]; rw [hv y (by simp [Op.operands]) 0]
    have h3 : hi.map (ev T sl' 0) = hi.map (ev T sl 0) := by cases hi with
      | none => rfl
      | some y => simp only [Option.map_some]; rw [hv y (by simp [Op.operands]) 0]
    simp only [eff, h1, h2, h3]
  | call c =>
    have ha : ∀ x ∈ c.args.toList, ∀ ty, ev T sl' ty x = ev T sl ty x := fun x hx ty => hv x (by simp only [Op.operands, Call.operands]; exact Array.mem_append.2 (.inr (by simpa using hx))) ty
    have hl : evL T sl' c.args.toList c.argTypes.toList = evL T sl c.args.toList c.argTypes.toList := evL_congr _ _ fun t ht => by
      have := ha _ ht 0
      simpa [ev] using this
    simp only [eff]
    split
    · split
      · rename_i x hx
        rw [ha x (by simp [hx])]
      · rfl
    · split
      · rename_i x y hx
        rw [ha x (by simp [hx]), ha y (by simp [hx])]
      · rfl
    · split
      · rename_i s x t t' hx ht
        simp only [ha s (by simp [hx]), ha x (by simp [hx])]
      · rfl
    · rw [hl]
    · rfl
  | _ => simp only [Op.operands, List.mem_toArray, List.mem_cons, List.mem_singleton, List.not_mem_nil, or_false, forall_eq_or_imp, forall_eq] at hv <;> simp only [eff, hv]

end
end Go.TM

/-! The tree machine, 23: the effects of some of a region's operations, in the text's order. -/
namespace Go.TM
set_option linter.unusedVariables false
set_option linter.unusedSimpArgs false

abbrev SH := (Nat → A) × Hp

def appE (d : Option Nat) (e : Eff) (s : SH) : SH := (setDst s.1 d e.val, applyH s.2 e.ups)

/-- The effects of those in S, in the order of their numbers. -/
def foldE (S : Nat → Bool) : Nat → List (Option Nat × Eff) → SH → SH
  | _, [], s => s
  | i, x :: rest, s => foldE S (i + 1) rest (if S i then appE x.1 x.2 s else s)

theorem setDst_at (sl : Nat → A) (d : Option Nat) (v : A) (t : Nat) : setDst sl d v t = if d = some t then v else sl t := by
  cases d with
  | none => simp [setDst]
  | some d =>
    simp only [setDst, upd, Option.some.injEq]
    by_cases h : t = d
    · simp [h]
    · rw [if_neg h, if_neg fun e => h e.symm]

theorem applyH_in {id : Id} : ∀ (us : List (Id × Option Root)) (hp hp' : Hp), id ∈ us.map (·.1) → applyH hp us id = applyH hp' us id
  | [], _, _, h => by simp at h
  | u :: us, hp, hp', h => by
    by_cases hu : u.1 = id
    · refine applyH_congr (hp := upd hp' u.1 u.2) (hp' := upd hp u.1 u.2) ?_ us
      simp [upd, hu]
    · have h' : id ∈ us.map (·.1) := by
        simp only [List.map_cons, List.mem_cons] at h
        exact h.resolve_left fun e => hu e.symm
      exact applyH_in us (upd hp u.1 u.2) (upd hp' u.1 u.2) h'

theorem foldE_slot {S S' : Nat → Bool} {t : Nat} : ∀ (xs : List (Option Nat × Eff)) (i : Nat) (s s' : SH), s.1 t = s'.1 t → (∀ j x, xs[j]? = some x → x.1 = some t → S (i + j) = S' (i + j)) → (foldE S i xs s).1 t = (foldE S' i xs s').1 t
  | [], _, _, _, h, _ => h
  | x :: xs, i, s, s', h, hS => by
    unfold foldE
    refine foldE_slot xs (i + 1) _ _ ?_ fun j y hj hy => by
      have := hS (j + 1) y (by simpa using hj) hy
      rwa [show i + (j + 1) = i + 1 + j from by omega] at this
    by_cases hx : x.1 = some t
    · have := hS 0 x rfl hx
      rw [Nat.add_zero] at this
      rw [this]
      split
      · simp [appE, setDst_at, hx]
      · exact h
    · have : ∀ (b : Bool) (z : SH), (if b then appE x.1 x.2 z else z).1 t = z.1 t := by
        intro b z
        split
        · simp [appE, setDst_at, hx]
        · rfl
      rw [this, this, h]

theorem foldE_heap {S S' : Nat → Bool} {id : Id} : ∀ (xs : List (Option Nat × Eff)) (i : Nat) (s s' : SH), s.2 id = s'.2 id → (∀ j x, xs[j]? = some x → id ∈ x.2.ups.map (·.1) → S (i + j) = S' (i + j)) → (foldE S i xs s).2 id = (foldE S' i xs s').2 id
  | [], _, _, _, h, _ => h
  | x :: xs, i, s, s', h, hS => by
    unfold foldE
    refine foldE_heap xs (i + 1) _ _ ?_ fun j y hj hy => by
      have := hS (j + 1) y (by simpa using hj) hy
      rwa [show i + (j + 1) = i + 1 + j from by omega] at this
    by_cases hx : id ∈ x.2.ups.map (·.1)
    · have := hS 0 x rfl hx
      rw [Nat.add_zero] at this
      rw [this]
      split
      · exact applyH_in _ _ _ hx
      · exact h
    · have : ∀ (b : Bool) (z : SH), (if b then appE x.1 x.2 z else z).2 id = z.2 id := by
        intro b z
        split
        · exact applyH_other _ _ hx
        · rfl
      rw [this, this, h]

theorem appE_comm {d1 d2 : Option Nat} {e1 e2 : Eff} (hd : ∀ t, d1 = some t → d2 ≠ some t) (hu : ∀ id ∈ e1.ups.map (·.1), id ∉ e2.ups.map (·.1)) (s : SH) : appE d2 e2 (appE d1 e1 s) = appE d1 e1 (appE d2 e2 s) := by
  unfold appE
  refine Prod.ext (funext fun t => ?_) (funext fun id => ?_)
  · simp only [setDst_at]
    by_cases h1 : d1 = some t
    · rw [if_neg (hd t h1), if_pos h1, if_pos h1]
    · rw [if_neg h1, if_neg h1]
  · simp only
    by_cases h1 : id ∈ e1.ups.map (·.1)
    · rw [applyH_other _ _ (hu id h1)]
      exact applyH_in _ _ _ h1
    · rw [applyH_other e1.ups _ h1]
      by_cases h2 : id ∈ e2.ups.map (·.1)
      · exact applyH_in _ _ _ h2
      · rw [applyH_other _ _ h2, applyH_other _ _ h2, applyH_other _ _ h1]

theorem foldE_comm {S : Nat → Bool} {d : Option Nat} {e : Eff} : ∀ (xs : List (Option Nat × Eff)) (i : Nat) (s : SH), (∀ j x, xs[j]? = some x → S (i + j) = true → (∀ t, d = some t → x.1 ≠ some t) ∧ ∀ id ∈ e.ups.map (·.1), id ∉ x.2.ups.map (·.1)) →
    foldE S i xs (appE d e s) = appE d e (foldE S i xs s)
  | [], _, _, _ => rfl
  | x :: xs, i, s, h => by
    have ih := fun z => foldE_comm (S := S) (d := d) (e := e) xs (i + 1) z fun j y hj hS => h (j + 1) y (by simpa using hj) (by rwa [show i + (j + 1) = i + 1 + j from by omega])
    unfold foldE
    rw [← ih]
    congr 1
    split
    · rename_i hS
      obtain ⟨h1, h2⟩ := h 0 x rfl (by simpa using hS)
      exact appE_comm h1 h2 s
    · rfl

/-- One more. -/
theorem foldE_add {S S' : Nat → Bool} {j : Nat} (hj : S j = false) (hj' : S' j = true) (hS : ∀ i, i ≠ j → S' i = S i) : ∀ (xs : List (Option Nat × Eff)) (i : Nat) (x : Option Nat × Eff) (s : SH), i ≤ j → xs[j - i]? = some x →
    (∀ k y, xs[k]? = some y → j < i + k → S (i + k) = true → (∀ t, x.1 = some t → y.1 ≠ some t) ∧ ∀ id ∈ x.2.ups.map (·.1), id ∉ y.2.ups.map (·.1)) → foldE S' i xs s = appE x.1 x.2 (foldE S i xs s)
  | [], i, x, s, _, hx, _ => by simp at hx
  | y :: xs, i, x, s, hi, hx, h => by
    unfold foldE
    by_cases hij : i = j
    · subst hij
      simp only [Nat.sub_self, List.getElem?_cons_zero, Option.some.injEq] at hx
      subst hx
      rw [hj, hj']
      simp only [if_true, Bool.false_eq_true, if_false]
      have e1 : ∀ (zs : List (Option Nat × Eff)) (k : Nat) (s : SH), i < k → foldE S' k zs s = foldE S k zs s := by
        intro zs
        induction zs with
        | nil => intro k s _; rfl
        | cons z zs ih => intro k s hk; unfold foldE; rw [hS k (by omega), ih (k + 1) _ (by omega)]
      rw [e1 xs (i + 1) _ (by omega)]
      exact foldE_comm xs (i + 1) s fun k z hk hz => h (k + 1) z (by simpa using hk) (by omega) (by rwa [show i + (k + 1) = i + 1 + k from by omega])
    · rw [hS i hij]
      refine foldE_add hj hj' hS xs (i + 1) x _ (by omega) ?_ fun k z hk h1 h2 => h (k + 1) z (by simpa using hk) (by omega) (by rwa [show i + (k + 1) = i + 1 + k from by omega])
      rw [show j - i = (j - (i + 1)) + 1 from by omega] at hx
      simpa using hx

end Go.TM

/-! The tree machine, 24: regions that draw their order. -/
namespace Go.TM
set_option linter.unusedVariables false
set_option linter.unusedSimpArgs false

/-- Operations that change nothing in the heap. -/
def quietOp : Op → Bool
  | .move _ | .assign _ | .pick .. | .build .. | .load .. | .fieldAddr .. | .field .. | .indexAddr .. | .slice .. | .extract .. | .nilCheck _ | .binOp .. | .unOp .. | .convert .. => true
  | .call c => match c.callee with
    | .builtin .len => true
    | .builtin .max => true
    | _ => false
  | _ => false

/-- Operations that neither change nor read the heap. -/
def blindOp : Op → Bool
  | .move _ | .assign _ | .pick .. | .build .. | .field .. | .slice .. | .extract .. | .binOp .. | .unOp .. | .convert .. => true
  | .call c => match c.callee with
    | .builtin .len => true
    | .builtin .max => true
    | _ => false
  | _ => false

section
variable {T : Nat → Option TI} {G : Nat → Option FM} {hp hp' : Hp} {m : Nat} {sl sl' : Nat → A}

theorem map_pure {x : Option A} {e : Eff} (h : x.map Eff.pure = some e) : e.ups = [] ∧ e.rd = [] := by
  cases x with
  | none => simp at h
  | some v => simp at h; subst h; exact ⟨rfl, rfl⟩

theorem some_pure {v : A} {e : Eff} (h : some (Eff.pure v) = some e) : e.ups = [] ∧ e.rd = [] := by
  cases h; exact ⟨rfl, rfl⟩

theorem sliceA_blind {tsz : Option Nat} {x : A} {lo hi : Option A} {e : Eff} (h : sliceA tsz x lo hi = some e) : e.ups = [] ∧ e.rd = [] := by
  unfold sliceA at h
  split at h
  · split at h
    · split at h
      · exact some_pure h
      · cases h
    · cases h
  · split at h
    · split at h
      · exact some_pure h
      · cases h
    · cases h
  · cases h

theorem eff_blind {ty : Nat} {o : Op} {e : Eff} (hq : blindOp o = true) (he : eff T G m ty o sl hp = some e) : e.ups = [] ∧ e.rd = [] := by
  cases o with
  | move x => exact some_pure he
  | assign x => exact some_pure he
  | pick c a b =>
    simp only [eff] at he
    split at he
    · exact some_pure he
    · cases he
  | build t ps =>
    simp only [eff] at he
    split at he
    · split at he
      · rw [Option.map_eq_some_iff] at he
        obtain ⟨v, _, rfl⟩ := he
        exact ⟨rfl, rfl⟩
      · cases he
    · cases he
  | field s x f =>
    simp only [eff] at he
    split at he
    · split at he
      · split at he
        · exact map_pure he
        · cases he
      · cases he
    · cases he
  | slice t x lo hi mx =>
    simp only [eff] at he
    split at he
    · exact sliceA_blind he
    · cases he
  | extract t ix =>
    simp only [eff] at he
    split at he
    · exact map_pure he
    · cases he
  | binOp =>
    simp only [eff] at he
    split at he
    · exact map_pure he
    · exact map_pure he
  | unOp => simp only [eff] at he; exact map_pure he
  | convert =>
    simp only [eff] at he
    split at he
    · exact some_pure he
    · cases he
  | call c =>
    simp only [blindOp] at hq
    simp only [eff] at he
    split at he
    · split at he
      · split at he
        · exact map_pure he
        · cases he
      · cases he
    · split at he
      · split at he
        · exact some_pure he
        · cases he
      · cases he
    · rename_i hc; rw [hc] at hq; cases hq
    · rename_i hc; rw [hc] at hq; cases hq
    · cases he
  | _ => simp [blindOp] at hq

theorem eff_quiet {ty : Nat} {o : Op} {e : Eff} (hq : quietOp o = true) (he : eff T G m ty o sl hp = some e) : e.ups = [] := by
  cases o with
  | load t a =>
    simp only [eff] at he
    split at he
    · unfold loadA at he
      split at he
      · split at he
        · split at he
          · rw [Option.map_eq_some_iff] at he
            obtain ⟨v, _, rfl⟩ := he
            rfl
          · cases he
        · cases he
      · split at he
        · exact (map_pure he).1
        · cases he
      · cases he
    · cases he
  | fieldAddr s x f =>
    simp only [eff] at he
    split at he
    · split at he
      · split at he
        · cases he; rfl
        · cases he
      · exact (some_pure he).1
      · cases he
    · cases he
  | indexAddr t x ix =>
    simp only [eff] at he
    unfold indexAddrA at he
    split at he
    · split at he
      · split at he
        · cases he; rfl
        · cases he
      · cases he
    · split at he
      · exact (some_pure he).1
      · cases he
    · split at he
      · split at he
        · cases he; rfl
        · cases he
      · cases he
    · cases he
  | nilCheck x =>
    simp only [eff] at he
    split at he
    · split at he
      · cases he; rfl
      · cases he
    · exact (some_pure he).1
    · cases he
  | call c => exact (eff_blind (o := .call c) (by simpa [quietOp, blindOp] using hq) he).1
  | _ => first | exact (eff_blind (by rfl) he).1 | (simp [quietOp] at hq)

theorem opA_quiet {ops : List Oper} {n i : Nat} {o : Oper} {e : Eff} (hq : quietOp o.op = true) (he : opA T G ops n i o sl hp = some e) : e.ups = [] := by
  unfold opA at he
  split at he
  · exact eff_quiet hq he
  · cases he; rfl
  · cases he

theorem opA_blind {ops : List Oper} {n i : Nat} {o : Oper} {e : Eff} (hq : blindOp o.op = true) (he : opA T G ops n i o sl hp = some e) : e.ups = [] ∧ e.rd = [] := by
  unfold opA at he
  split at he
  · exact eff_blind hq he
  · cases he; exact ⟨rfl, rfl⟩
  · cases he

end

/-- i comes before j. -/
def ordB (ops : Array Oper) : Nat → Nat → Nat → Bool
  | 0, _, _ => false
  | f + 1, i, j => match ops[j]? with
    | some o => o.after.any fun e => Region.binds .any e && decide (e.on < j) && (e.on == i || ordB ops f i e.on)
    | none => false

def coverB (DT : List (Nat × Nat)) (ops : Array Oper) (i j : Nat) : Bool := match ops[i]?, ops[j]? with
  | some oi, some oj => quietOp oi.op || blindOp oj.op || DT.contains (i, j)
  | _, _ => true

/-- What is checked of a region that draws. -/
def chkD (DT : List (Nat × Nat)) (ops : Array Oper) : Bool :=
  (List.range ops.size).all fun j => match ops[j]? with
    | some oj => (oj.after.all fun e => !Region.binds .any e || decide (e.on < j)) &&
      (List.range j).all fun i => match ops[i]? with
        | some oi => ordB ops ops.size i j || (oi.apart ops oj && coverB DT ops i j && coverB DT ops j i)
        | none => true
    | none => true

structure ChkD (DT : List (Nat × Nat)) (ops : Array Oper) : Prop where
  edge : ∀ (j : Nat) oj, ops[j]? = some oj → ∀ e ∈ oj.after, Region.binds .any e = true → e.on < j
  pair : ∀ (i j : Nat) oi oj, i < j → ops[i]? = some oi → ops[j]? = some oj → ordB ops ops.size i j = true ∨ (oi.apart ops oj = true ∧ coverB DT ops i j = true ∧ coverB DT ops j i = true)

theorem chkD_spec {DT : List (Nat × Nat)} {ops : Array Oper} (h : chkD DT ops = true) : ChkD DT ops := by
  unfold chkD at h
  simp only [List.all_eq_true, List.mem_range] at h
  constructor
  · intro j oj hj e he hb
    have := h j (Array.getElem?_eq_some_iff.1 hj).1
    rw [hj] at this
    simp only [Bool.and_eq_true] at this
    have h1 := Array.all_eq_true_iff_forall_mem.1 this.1 e he
    simpa [hb] using h1
  · intro i j oi oj hij hi hj
    have := h j (Array.getElem?_eq_some_iff.1 hj).1
    rw [hj] at this
    simp only [Bool.and_eq_true, List.all_eq_true, List.mem_range] at this
    have h1 := this.2 i hij
    rw [hi] at h1
    simp only [Bool.or_eq_true, Bool.and_eq_true] at h1
    rcases h1 with h1 | h1
    · exact .inl h1
    · exact .inr ⟨h1.1.1, h1.1.2, h1.2⟩

/-- What is before something that is listed is listed. -/
def Down (ops : Array Oper) (listed : Array Bool) : Prop := ∀ (j : Nat) oj, listed.getD j false = true → ops[j]? = some oj → ∀ e ∈ oj.after, Region.binds .any e = true → listed.getD e.on false = true

theorem down_ord {ops : Array Oper} {listed : Array Bool} (hd : Down ops listed) : ∀ (f i j : Nat), ordB ops f i j = true → (∀ oj, ops[j]? = some oj → ∀ e ∈ oj.after, Region.binds .any e = true → listed.getD e.on false = true) → listed.getD i false = true
  | 0, _, _, h, _ => by simp [ordB] at h
  | f + 1, i, j, h, hj => by
    unfold ordB at h
    split at h
    · rename_i o ho
      rw [Array.any_eq_true'] at h
      obtain ⟨e, he, hb⟩ := h
      simp only [Bool.and_eq_true, Bool.or_eq_true, beq_iff_eq] at hb
      have h1 := hj o ho e he hb.1.1
      rcases hb.2 with h2 | h2
      · rw [← h2]; exact h1
      · exact down_ord hd f i e.on h2 fun oj hoj => hd e.on oj h1 hoj
    · cases h

theorem foldE_none {S : Nat → Bool} : ∀ (xs : List (Option Nat × Eff)) (i : Nat) (s : SH), (∀ j, i ≤ j → S j = false) → foldE S i xs s = s
  | [], _, _, _ => rfl
  | x :: xs, i, s, h => by
    unfold foldE
    rw [h i (Nat.le_refl _)]
    exact foldE_none xs (i + 1) _ fun j hj => h j (by omega)

theorem foldE_ext {S S' : Nat → Bool} : ∀ (xs : List (Option Nat × Eff)) (i : Nat) (s : SH), (∀ j, j < xs.length → S (i + j) = S' (i + j)) → foldE S i xs s = foldE S' i xs s
  | [], _, _, _ => rfl
  | x :: xs, i, s, h => by
    unfold foldE
    have h0 := h 0 (by simp)
    rw [Nat.add_zero] at h0
    rw [h0]
    exact foldE_ext xs (i + 1) _ fun j hj => by
      have := h (j + 1) (by simpa using hj)
      rwa [show i + (j + 1) = i + 1 + j from by omega] at this

theorem runOps_effs {T : Nat → Option TI} {G : Nat → Option FM} {ops : List Oper} {n : Nat} : ∀ (rest : List Oper) (i : Nat) (sl : Nat → A) (hp : Hp) (log : Log) {sl' : Nat → A} {hp' : Hp} {log' : Log}, runOps T G ops n i rest sl hp log = some (sl', hp', log') →
    ∃ xs : List (Option Nat × Eff), xs.length = rest.length ∧ (∀ (k : Nat) o, rest[k]? = some o → ∃ e, xs[k]? = some (o.dst, e) ∧ opA T G ops n (i + k) o (foldE (fun q => decide (q < i + k)) i xs (sl, hp)).1 (foldE (fun q => decide (q < i + k)) i xs (sl, hp)).2 = some e ∧
      logAt log' (i + k) = (e.ups.map (·.1), e.rd)) ∧ (sl', hp') = foldE (fun _ => true) i xs (sl, hp) ∧ ∀ j, j < i → logAt log' j = logAt log j
  | [], i, sl, hp, log, sl', hp', log', h => by
    cases h
    exact ⟨[], rfl, by simp, rfl, fun _ _ => rfl⟩
  | o :: rest, i, sl, hp, log, sl', hp', log', h => by
    unfold runOps at h
    split at h
    · cases h
    · rename_i e he
      obtain ⟨xs, h1, h2, h3, h4⟩ := runOps_effs rest (i + 1) _ _ _ h
      refine ⟨(o.dst, e) :: xs, by simp [h1], fun k o' hk => ?_, ?_, fun j hj => ?_⟩
      · cases k with
        | zero =>
          simp only [List.getElem?_cons_zero, Option.some.injEq] at hk
          subst hk
          refine ⟨e, by simp, ?_, ?_⟩
          · rw [foldE_none _ _ _ fun j hj => by simp; omega]
            simpa using he
          · rw [h4 (i + 0) (by omega)]
            simp [logAt]
        | succ k =>
          obtain ⟨e', g1, g2, g3⟩ := h2 k o' (by simpa using hk)
          have hi : i + (k + 1) = i + 1 + k := by omega
          refine ⟨e', by simpa using g1, ?_, by rw [hi]; exact g3⟩
          rw [hi]
          unfold foldE
          rw [if_pos (by simp; omega)]
          exact g2
      · rw [h3]
        simp [foldE, appE]
      · rw [h4 j (by omega)]
        simp [logAt, show ¬ i = j from by omega]

theorem disjB_spec {xs ys : List Id} (h : disjB xs ys = true) {x : Id} (hx : x ∈ xs) (hy : x ∈ ys) : False := by
  unfold disjB at h
  simp only [List.all_eq_true] at h
  have := h x hx x hy
  simp at this

end Go.TM

/-! The tree machine, 25: a region that draws its order comes to what its text's order gives. -/
namespace Go.TM
set_option linter.unusedVariables false
set_option linter.unusedSimpArgs false

/-- The frame and the world, in the midst of a region. -/
structure Mid [Use] (w0 : World) (L0 : Lab) (hpB : Hp) (N : Nat) (U : Nat → Prop) (x : SH) (a : Act) (w : World) (L : Lab) : Prop where
  h : HRel w0 L0 U x.2 w L
  s : Slots U w L x.2 x.1 a.tmps
  size : a.tmps.size = N
  defers : a.defers = []
  keeps : Keeps (ltN 3) w0 L0 hpB U w L x.2

def usedU (n : Nat) (listed : Array Bool) : Nat → Prop := fun k => k < n ∨ ∃ i, k = n + i ∧ listed.getD i false = true

theorem count_set_true (l : List Bool) (j : Nat) (h : l[j]? = some false) : (l.set j true).count false + 1 = l.count false := by
  induction l generalizing j with
  | nil => simp at h
  | cons x l ih =>
    cases j with
    | zero => simp at h; subst h; simp
    | succ j =>
      have := ih j (by simpa using h)
      simp only [List.set_cons_succ, List.count_cons]
      omega

theorem ready_nil {ops : Array Oper} {DT : List (Nat × Nat)} (hc : ChkD DT ops) {listed : Array Bool} (hz : listed.size = ops.size) (hr : Region.ready .any ops listed = []) : ∀ j, j < ops.size → listed.getD j false = true := by
  intro j
  induction j using Nat.strongRecOn with
  | _ j ih =>
    intro hj
    cases hl : listed.getD j false with
    | true => rfl
    | false =>
      exfalso
      have hj' : j < listed.size := by omega
      have : j ∈ Region.ready .any ops listed := by
        rw [mem_ready]
        refine ⟨?_, ops[j], by simp [hj], fun e he hb => ?_⟩
        · simp only [Array.getD, hj', dif_pos] at hl ⊢
          exact hl
        · have h1 := hc.edge j ops[j] (by simp [hj]) e he hb
          exact ih e.on h1 (by omega)
      rw [hr] at this
      cases this

section
variable {P : Program} {T : Nat → Option TI} {G : Nat → Option FM} {DT : List (Nat × Nat)} {N : Nat} {w0 : World} {L0 : Lab} {hpB : Hp} {ops : Array Oper}

/-- An operation that is ready finds what it finds in the text's order. -/
theorem ready_eff {n j : Nat} {listed : Array Bool} {xs : List (Option Nat × Eff)} {s0 : SH} {log : Log} (hc : ChkD DT ops) (hlen : xs.length = ops.size) (hd : Down ops listed) (hdr : drawB DT log = true)
    (hx : ∀ (k : Nat) o, ops.toList[k]? = some o → ∃ e, xs[k]? = some (o.dst, e) ∧ opA T G ops.toList n k o (foldE (fun q => decide (q < k)) 0 xs s0).1 (foldE (fun q => decide (q < k)) 0 xs s0).2 = some e ∧ logAt log k = (e.ups.map (·.1), e.rd))
    {o : Oper} (ho : ops[j]? = some o) (hun : listed.getD j false = false) (hall : ∀ e ∈ o.after, Region.binds .any e = true → listed.getD e.on false = true) :
    ∃ e, xs[j]? = some (o.dst, e) ∧ opA T G ops.toList n j o (foldE (fun q => listed.getD q false) 0 xs s0).1 (foldE (fun q => listed.getD q false) 0 xs s0).2 = some e ∧
      (∀ k y, xs[k]? = some y → j < k → listed.getD k false = true → (∀ t, o.dst = some t → y.1 ≠ some t) ∧ ∀ id ∈ e.ups.map (·.1), id ∉ y.2.ups.map (·.1)) := by
  have hat : ∀ k o, ops[k]? = some o → ops.toList[k]? = some o := fun k o h => by rw [Array.getElem?_toList]; exact h
  have hop : ∀ (k : Nat) (y : Option Nat × Eff), xs[k]? = some y → ∃ o', ops[k]? = some o' ∧ y.1 = o'.dst ∧ logAt log k = (y.2.ups.map (·.1), y.2.rd) ∧ (quietOp o'.op = true → y.2.ups = []) ∧ (blindOp o'.op = true → y.2.ups = [] ∧ y.2.rd = []) := by
    intro k y hk
    have hlt : k < ops.size := by
      have := (List.getElem?_eq_some_iff.1 hk).1
      omega
    obtain ⟨e, h1, h2, h3⟩ := hx k ops[k] (hat k _ (by simp [hlt]))
    rw [hk] at h1
    cases h1
    exact ⟨ops[k], by simp [hlt], rfl, h3, fun hq => opA_quiet hq h2, fun hq => opA_blind hq h2⟩
  obtain ⟨e, he1, he2, he3⟩ := hx j o (hat j o ho)
  have hcov : ∀ (i k : Nat) (y z : Option Nat × Eff), xs[i]? = some y → xs[k]? = some z → coverB DT ops i k = true → ∀ id ∈ y.2.ups.map (·.1), id ∉ z.2.ups.map (·.1) ∧ id ∉ z.2.rd := by
    intro i k y z hi hk hcv id hid
    obtain ⟨oi, g1, g2, g3, g4, g5⟩ := hop i y hi
    obtain ⟨ok, f1, f2, f3, f4, f5⟩ := hop k z hk
    unfold coverB at hcv
    rw [g1, f1] at hcv
    simp only [Bool.or_eq_true] at hcv
    rcases hcv with (hq | hq) | hq
    · rw [g4 hq] at hid; simp at hid
    · rw [(f5 hq).1, (f5 hq).2]; simp
    · unfold drawB at hdr
      simp only [List.all_eq_true] at hdr
      have := hdr (i, k) (by simpa using hq)
      simp only [g3, f3] at this
      exact ⟨fun hm => disjB_spec this hid (by simp [hm]), fun hm => disjB_spec this hid (by simp [hm])⟩
  -- those before j that aren't listed, and those behind it that are, have nothing to do with j
  have hfree : ∀ k ok, ops[k]? = some ok → listed.getD k false ≠ decide (k < j) → k ≠ j ∧ (ok.apart ops o = true ∨ o.apart ops ok = true) ∧ coverB DT ops k j = true ∧ coverB DT ops j k = true := by
    intro k ok hk hne
    rcases Nat.lt_trichotomy k j with hlt | heq | hgt
    · have hkl : listed.getD k false = false := by
        rw [decide_eq_true hlt] at hne
        cases hl : listed.getD k false with
        | true => rw [hl] at hne; exact absurd rfl hne
        | false => rfl
      rcases hc.pair k j ok o hlt hk ho with h1 | ⟨h1, h2, h3⟩
      · have := down_ord hd _ k j h1 fun oj hoj => by rw [ho] at hoj; cases hoj; exact hall
        rw [this] at hkl; cases hkl
      · exact ⟨by omega, .inl h1, h2, h3⟩
    · subst heq
      rw [hun] at hne
      simp at hne
    · have hkl : listed.getD k false = true := by
        rw [show decide (k < j) = false from by simp; omega] at hne
        cases hl : listed.getD k false with
        | true => rfl
        | false => rw [hl] at hne; exact absurd rfl hne
      rcases hc.pair j k o ok hgt ho hk with h1 | ⟨h1, h2, h3⟩
      · have := down_ord hd _ j k h1 fun oj hoj => hd k oj hkl hoj
        rw [this] at hun; cases hun
      · exact ⟨by omega, .inr h1, h3, h2⟩
  refine ⟨e, he1, ?_, fun k y hk hjk hl => ?_⟩
  · have hslots : ∀ t, t ∈ o.looksAt ops → (foldE (fun q => listed.getD q false) 0 xs s0).1 t = (foldE (fun q => decide (q < j)) 0 xs s0).1 t := by
      intro t ht
      refine foldE_slot xs 0 _ _ rfl fun k y hk hy => ?_
      rw [Nat.zero_add]
      obtain ⟨ok, g1, g2, _⟩ := hop k y hk
      rw [g2] at hy
      by_cases hne : listed.getD k false = decide (k < j)
      · exact hne
      · obtain ⟨_, h1, _⟩ := hfree k ok g1 hne
        rcases h1 with h1 | h1
        · exact absurd ht ((Oper.apart_spec h1).1 t hy)
        · exact absurd ht ((Oper.apart_spec h1).2.2 t hy)
    have hheap : ∀ id ∈ e.rd, (foldE (fun q => listed.getD q false) 0 xs s0).2 id = (foldE (fun q => decide (q < j)) 0 xs s0).2 id := by
      intro id hid
      refine foldE_heap xs 0 _ _ rfl fun k y hk hy => ?_
      rw [Nat.zero_add]
      obtain ⟨ok, g1, _⟩ := hop k y hk
      by_cases hne : listed.getD k false = decide (k < j)
      · exact hne
      · obtain ⟨_, _, h1, _⟩ := hfree k ok g1 hne
        exact absurd hid (hcov k j y _ hk he1 h1 id hy).2
    unfold opA at he2 ⊢
    have hw : wantedA ops.toList (foldE (fun q => listed.getD q false) 0 xs s0).1 o = wantedA ops.toList (foldE (fun q => decide (q < j)) 0 xs s0).1 o := by
      unfold wantedA
      split
      · rfl
      · rename_i g want hg
        split
        · rename_i d hd'
          rw [hslots d (by
            unfold Oper.looksAt
            rw [hg]
            rw [Array.getElem?_toList] at hd'
            simp [hd'])]
        · rfl
    rw [hw]
    split at he2
    · rename_i hwt
      refine eff_heap ?_ hheap
      rw [← he2]
      refine (eff_slots fun t ht => ?_)
      exact hslots t (List.mem_append_left _ (List.mem_filterMap.2 ⟨.tmp t, by simpa using ht, rfl⟩))
    · exact he2
    · cases he2
  · obtain ⟨ok, g1, g2, _⟩ := hop k y hk
    obtain ⟨_, h1, _, h2⟩ := hfree k ok g1 (by rw [hl]; simp; omega)
    refine ⟨fun t ht => ?_, fun id hid => (hcov j k _ y he1 hk h2 id hid).1⟩
    rw [g2]
    rcases h1 with h1 | h1
    · exact fun e => (Oper.apart_spec h1).2.1 t e ht
    · exact (Oper.apart_spec h1).2.1 t ht

theorem any_ok [B : Use] (hT : TabOk P T) (hG : GOk P G) {n : Nat} {xs : List (Option Nat × Eff)} {s0 : SH} {log : Log} {Q : Exit → Act → World → Prop} (hc : ChkD DT ops) (hlen : xs.length = ops.size) (hdr : drawB DT log = true)
    (hx : ∀ (k : Nat) o, ops.toList[k]? = some o → ∃ e, xs[k]? = some (o.dst, e) ∧ opA T G ops.toList n k o (foldE (fun q => decide (q < k)) 0 xs s0).1 (foldE (fun q => decide (q < k)) 0 xs s0).2 = some e ∧ logAt log k = (e.ups.map (·.1), e.rd))
    (hN : ∀ o ∈ ops, ∀ t, o.dst = some t → t < N) (hQ : ∀ a w L, Mid w0 L0 hpB N (ltN (n + ops.size)) (foldE (fun _ => true) 0 xs s0) a w L → Q .normal a w) :
    ∀ (fuel : Nat) (listed : Array Bool) (a : Act) (w : World) (L : Lab), listed.size = ops.size → Down ops listed → listed.toList.count false ≤ fuel → Mid w0 L0 hpB N (usedU n listed) (foldE (fun q => listed.getD q false) 0 xs s0) a w L →
      wpAny P .any ops Q fuel listed a w := by
  intro fuel
  induction fuel with
  | zero =>
    intro listed a w L hz hd hcnt hm
    have hall : ∀ j, j < ops.size → listed.getD j false = true := by
      intro j hj
      have hj' : j < listed.size := by omega
      have h0 := List.count_eq_zero.1 (Nat.le_zero.1 hcnt)
      cases hl : listed.getD j false with
      | true => rfl
      | false =>
        exfalso
        refine h0 ?_
        rw [Array.getD_eq_getD_getElem?, Array.getElem?_eq_getElem hj'] at hl
        simp at hl
        rw [← hl]
        simp
    have hr : Region.ready .any ops listed = [] := by
      rw [List.eq_nil_iff_forall_not_mem]
      intro j hj
      rw [mem_ready] at hj
      obtain ⟨h0, o, ho, _⟩ := hj
      have hlt := (Array.getElem?_eq_some_iff.1 ho).1
      have := hall j hlt
      have hj' : j < listed.size := by omega
      simp only [Array.getD, hj', dif_pos] at h0 this
      rw [this] at h0; cases h0
    refine ⟨hr, hQ a w L ?_⟩
    have e1 : usedU n listed = ltN (n + ops.size) := by
      funext k
      simp only [usedU, ltN, eq_iff_iff]
      constructor
      · rintro (h | ⟨i, h1, h2⟩)
        · omega
        · rcases Nat.lt_or_ge i listed.size with h' | h'
          · omega
          · simp [Array.getD, show ¬ i < listed.size from by omega] at h2
      · intro h
        rcases Nat.lt_or_ge k n with h' | h'
        · exact .inl h'
        · exact .inr ⟨k - n, by omega, hall _ (by omega)⟩
    rw [e1] at hm
    rw [foldE_ext (S' := fun _ => true) xs 0 s0 fun j hj => by rw [Nat.zero_add]; exact hall j (by omega)] at hm
    exact hm
  | succ fuel ih =>
    intro listed a w L hz hd hcnt hm
    refine ⟨fun hr => ?_, fun j hj => ?_⟩
    · have hall := ready_nil hc hz hr
      refine hQ a w L ?_
      have e1 : usedU n listed = ltN (n + ops.size) := by
        funext k
        simp only [usedU, ltN, eq_iff_iff]
        constructor
        · rintro (h | ⟨i, h1, h2⟩)
          · omega
          · rcases Nat.lt_or_ge i listed.size with h' | h'
            · omega
            · simp [Array.getD, show ¬ i < listed.size from by omega] at h2
        · intro h
          rcases Nat.lt_or_ge k n with h' | h'
          · exact .inl h'
          · exact .inr ⟨k - n, by omega, hall _ (by omega)⟩
      rw [e1] at hm
      rw [foldE_ext (S' := fun _ => true) xs 0 s0 fun j hj => by rw [Nat.zero_add]; exact hall j (by omega)] at hm
      exact hm
    · obtain ⟨hun, o, ho, hall⟩ := mem_ready.1 hj
      have hlt : j < ops.size := (Array.getElem?_eq_some_iff.1 ho).1
      have hj' : j < listed.size := by omega
      have hun' : listed.getD j false = false := by
        simp only [Array.getD, hj', dif_pos] at hun ⊢
        exact hun
      obtain ⟨e, h1, h2, h3⟩ := ready_eff hc hlen hd hdr hx ho hun' hall
      have hset : ∀ q, (listed.setIfInBounds j true).getD q false = if q = j then true else listed.getD q false := by
        intro q
        by_cases hq : q = j
        · subst hq; simp [Array.getD_eq_getD_getElem?, Array.getElem?_setIfInBounds_self_of_lt hj']
        · rw [if_neg hq]; exact getD_set_ne false fun e => hq e.symm
      have hU : usedU n (listed.setIfInBounds j true) = addU (usedU n listed) (n + j) := by
        funext k
        simp only [usedU, addU, eq_iff_iff]
        constructor
        · rintro (h | ⟨i, h4, h5⟩)
          · exact .inl (.inl h)
          · rw [hset] at h5
            by_cases hij : i = j
            · subst hij; exact .inr h4
            · rw [if_neg hij] at h5; exact .inl (.inr ⟨i, h4, h5⟩)
        · rintro ((h | ⟨i, h4, h5⟩) | h)
          · exact .inl h
          · refine .inr ⟨i, h4, ?_⟩
            rw [hset]
            split
            · rfl
            · exact h5
          · exact .inr ⟨j, h, by rw [hset, if_pos rfl]⟩
      have hfold : foldE (fun q => (listed.setIfInBounds j true).getD q false) 0 xs s0 = appE o.dst e (foldE (fun q => listed.getD q false) 0 xs s0) := by
        refine foldE_add (j := j) hun' (by rw [hset, if_pos rfl]) (fun i hi => by rw [hset, if_neg hi]) xs 0 (o.dst, e) s0 (Nat.zero_le _) (by simpa using h1) fun k y hk hjk hl => ?_
        rw [Nat.zero_add] at hjk hl
        exact h3 k y hk hjk hl
      have hmN : ¬ usedU n listed (n + j) := by
        rintro (h | ⟨i, h4, h5⟩)
        · omega
        · have : i = j := by omega
          subst this
          rw [hun'] at h5; cases h5
      have hd' : Down ops (listed.setIfInBounds j true) := by
        intro q oq hq hoq e' he' hb
        rw [hset] at hq ⊢
        split
        · rfl
        · split at hq
          · rename_i hqj
            subst hqj
            rw [ho] at hoq
            cases hoq
            exact hall e' he' hb
          · exact hd q oq hq hoq e' he' hb
      have hcnt' : (listed.setIfInBounds j true).toList.count false ≤ fuel := by
        have := count_set_true listed.toList j (by
          rw [Array.getElem?_toList, Array.getElem?_eq_getElem hj']
          simp [Array.getD, hj'] at hun'
          rw [hun'])
        rw [Array.toList_setIfInBounds]
        omega
      have hdt : ∀ t, o.dst = some t → t < a.tmps.size := fun t ht => by rw [hm.size]; exact hN o (Array.mem_of_getElem? ho) t ht
      have next : ∀ v w' L', HRel w0 L0 (addU (usedU n listed) (n + j)) (applyH (foldE (fun q => listed.getD q false) 0 xs s0).2 e.ups) w' L' →
          Keeps (usedU n listed) w L (foldE (fun q => listed.getD q false) 0 xs s0).2 (addU (usedU n listed) (n + j)) w' L' (applyH (foldE (fun q => listed.getD q false) 0 xs s0).2 e.ups) →
          Rep (addU (usedU n listed) (n + j)) w' L' (applyH (foldE (fun q => listed.getD q false) 0 xs s0).2 e.ups) e.val v →
          wpAny P .any ops Q fuel (listed.setIfInBounds j true) (a.put o.dst v) w' := by
        intro v w' L' g1 g2 g3
        refine ih (listed.setIfInBounds j true) (a.put o.dst v) w' L' (by simp [hz]) hd' hcnt' ?_
        rw [hU, hfold]
        exact ⟨g1, slots_put (fun t => Rep.mono g2 _ _ (hm.s t)) o.dst hdt g3, by rw [put_size, hm.size], by rw [put_defers, hm.defers], hm.keeps.trans g2⟩
      unfold wpOp
      rw [ho]
      simp only
      unfold opA at h2
      split at h2
      · rename_i hw
        have hwant := wanted_ok hm.s hw
        rw [if_pos hwant]
        exact .inl (eff_ok hT hG hm.h hm.s hmN h2 _ _ next)
      · rename_i hw
        have hwant := wanted_ok hm.s hw
        cases h2
        rw [if_neg (by simp [hwant])]
        refine next undef w L (hm.h.mono fun k hk' => .inl hk') (keeps_ups [] (by simp) fun k hk => .inl hk) ?_
        simp only [Eff.pure, Rep]
        exact ⟨#[], rfl, by simp [RepL]⟩
      · cases h2

theorem own_drawn [Use] {w : World} {L : Lab} {d : Nat} {a : A} {id : Id} {p : List Nat} {u : Value} (h : Own w L a id p u) : Own { w with drawn := d } L a id p u :=
  Own.move (w := w) (w' := { w with drawn := d }) (fun b hb => ⟨hb, rfl⟩) a p p u (fun b q hb => ⟨hb, rfl⟩) h

theorem keeps_drawn [Use] {U : Nat → Prop} {w : World} {L : Lab} {hp : Hp} {d : Nat} : Keeps U w L hp U { w with drawn := d } L hp :=
  ⟨fun _ h => h, fun _ h => ⟨h, rfl⟩, fun _ r h _ => ⟨r, h, fun _ => Nat.le_refl _⟩, fun _ _ _ _ _ h => ⟨h, fun _ hb => ⟨hb, fun cur _ hc => ⟨cur, hc, rfl⟩⟩⟩⟩

theorem hrel_drawn [Use] {U : Nat → Prop} {hp : Hp} {w : World} {L : Lab} {d : Nat} (h : HRel w0 L0 U hp w L) : HRel w0 L0 U hp { w with drawn := d } L :=
  ⟨fun id r hr => (h.roots id r hr).imp fun u hu => own_drawn hu, h.inj, h.free, h.used, h.usedR, h.prot, h.size, h.os, h.tape, h.output, h.use, h.frz⟩

theorem draw_ok [B : Use] {DT : Nat → List (Nat × Nat)} (hm : P.follows .mixedOrders = true) (hT : TabOk P T) (hG : GOk P G) : DrawOk P T G DT (fun id ops => chkD (DT id) ops) N w0 L0 hpB := by
  intro id ops st sl hp log a w L Q hok hrun hdr hat hQ
  refine wp_region_any hm ?_
  obtain ⟨xs, h1, h2, h3, h4⟩ := runOps_effs ops.toList 0 st.sl st.hp [] hrun
  simp only [okC, Bool.and_eq_true, Bool.not_true, Bool.false_or, List.all_eq_true] at hok
  have hlist : ∀ q, (Array.replicate ops.size false).getD q false = false := by
    intro q
    simp only [Array.getD]
    split <;> simp
  refine any_ok (DT := DT id) (N := N) (w0 := w0) (L0 := L0) (hpB := hpB) (n := st.n) (xs := xs) (s0 := (st.sl, st.hp)) hT hG (chkD_spec hok.2) (by simpa using h1) hdr (fun k o hk => by
      obtain ⟨e, g1, g2, g3⟩ := h2 k o hk
      rw [Nat.zero_add] at g2 g3
      exact ⟨e, g1, g2, g3⟩)
    (fun o ho t ht => ?_) (fun a' w' L' hm' => ?_) ops.size _ a _ L (by simp) (fun j oj hj => ?_) (by simp) ?_
  · have := hok.1 o (by simpa using ho)
    rw [ht] at this
    simpa using this
  · rw [← h3] at hm'
    exact hQ a' w' L' ⟨by simpa using hm'.h, by simpa using hm'.s, hm'.size, hm'.defers, by simpa using hm'.keeps⟩
  · rw [hlist] at hj; cases hj
  · have e1 : usedU st.n (Array.replicate ops.size false) = ltN st.n := by
      funext k
      simp only [usedU, ltN, eq_iff_iff]
      constructor
      · rintro (h | ⟨i, _, h⟩)
        · exact h
        · rw [hlist] at h; cases h
      · exact .inl
    rw [foldE_none _ _ _ fun j _ => hlist j, e1]
    exact ⟨hrel_drawn hat.h, fun t => Rep.mono keeps_drawn _ _ (hat.s t), hat.size, hat.defers, hat.keeps.trans keeps_drawn⟩

end
end Go.TM

/-! The tree machine, 26: how a body ends. -/
namespace Go.TM
set_option linter.unusedVariables false
set_option linter.unusedSimpArgs false

/-- The labels at a body's end: results under the instance 0, what was lent under 2. -/
def labE (L : Lab) (m : Nat) : Lab := fun b => match L b with
  | .free => .free
  | .prot => .prot
  | .at i p => if i = (m, 999) then (match p with
      | k :: q => .at (0, k) q
      | [] => .free) else if i.1 = 2 then .at i p else .free

theorem labE_prot {L : Lab} {m b : Nat} (h : L b = .prot) : labE L m b = .prot := by simp [labE, h]
theorem labE_free {L : Lab} {m b : Nat} (h : L b = .free) : labE L m b = .free := by simp [labE, h]
theorem labE_res {L : Lab} {m b k : Nat} {q : List Nat} (h : L b = .at (m, 999) (k :: q)) : labE L m b = .at (0, k) q := by simp [labE, h]
theorem labE_io {L : Lab} {m b t : Nat} {q : List Nat} (hm : 3 ≤ m) (h : L b = .at (2, t) q) : labE L m b = .at (2, t) q := by
  simp only [labE, h]
  rw [if_neg (by simp; omega)]
  simp

theorem labE_at {L : Lab} {m b : Nat} {i : Id} {p : List Nat} (h : labE L m b = .at i p) : (∃ k, i = (0, k) ∧ L b = .at (m, 999) (k :: p)) ∨ (i.1 = 2 ∧ L b = .at i p) := by
  unfold labE at h
  split at h
  · cases h
  · cases h
  · rename_i i' p' hb
    split at h
    · rename_i hi
      subst hi
      split at h
      · cases h; exact .inl ⟨_, rfl, hb⟩
      · cases h
    · split at h
      · cases h; exact .inr ⟨by assumption, hb⟩
      · cases h

section
variable {P : Program} {T : Nat → Option TI} {w0 w : World} {L0 L : Lab} {U : Nat → Prop} {hp : Hp} {m : Nat}

theorem own_E [Use] {c : A} {k : Nat} {u : Value} (h : Own w L c (m, 999) ([] ++ [k]) u) : Own w (labE L m) c (0, k) [] u :=
  Own.move (L' := labE L m) (fun b hb => ⟨labE_prot hb, rfl⟩) c _ [] u (fun b q hq => ⟨labE_res (by simpa using hq), rfl⟩) h

theorem iosOf_get : ∀ {shs : List (Nat × Nat)} {t0 : Nat} {outs : List (List A)}, iosOf hp t0 shs = some outs → outs.length = shs.length ∧ ∀ (t : Nat) sh cs, shs[t]? = some sh → outs[t]? = some cs → ∃ r, hp (2, t0 + t) = some r ∧ r.sz = sh.1 ∧ r.len = sh.2 ∧ r.cs = cs
  | [], t0, outs, h => by cases h; simp
  | sh :: shs, t0, outs, h => by
    unfold iosOf at h
    split at h
    · rename_i r cs h1 h2
      split at h
      · rename_i hc
        cases h
        obtain ⟨e1, e2⟩ := iosOf_get h2
        refine ⟨by simp [e1], fun t sh' cs' g1 g2 => ?_⟩
        cases t with
        | zero =>
          simp at g1 g2
          subst g1; subst g2
          exact ⟨r, h1, hc.1, hc.2, rfl⟩
        | succ t =>
          obtain ⟨r', f1, f2⟩ := e2 t sh' cs' (by simpa using g1) (by simpa using g2)
          exact ⟨r', by rw [show t0 + (t + 1) = t0 + 1 + t from by omega]; exact f1, f2⟩
      · cases h
    · cases h

theorem end_h [Use] (h : HRel w0 L0 U hp w L) (hm : 3 ≤ m) {shs : List (Nat × Nat)} {outs : List (List A)} (ho : iosOf hp 0 shs = some outs) : HRel w0 L0 (fun _ => True) (ioHp shs outs) w (labE L m) := by
  obtain ⟨e1, e2⟩ := iosOf_get ho
  refine ⟨fun id r hr => ?_, fun b b' i p hb hb' => ?_, fun b hb => labE_free (h.free b hb), fun _ _ _ _ => trivial, fun _ _ _ => trivial, fun b hb => ⟨labE_prot (h.prot b hb).1, (h.prot b hb).2⟩, h.size, h.os, h.tape, h.output, h.use, h.frz⟩
  · unfold ioHp at hr
    split at hr
    · rename_i h2
      split at hr
      · rename_i sh cs g1 g2
        cases hr
        obtain ⟨r1, f1, f2, f3, f4⟩ := e2 id.2 sh cs g1 g2
        rw [Nat.zero_add] at f1
        have hid : id = (2, id.2) := Prod.ext h2 rfl
        obtain ⟨u, hu⟩ := h.roots _ r1 f1
        refine ⟨u, ?_⟩
        rw [f2, f3, f4] at hu
        rw [hid]
        exact Own.move (L' := labE L m) (fun b hb => ⟨labE_prot hb, rfl⟩) _ [] [] u (fun b q hq => ⟨labE_io hm hq, rfl⟩) hu
      · cases hr
    · cases hr
  · rcases labE_at hb with ⟨k, rfl, g1⟩ | ⟨g0, g1⟩
    · rcases labE_at hb' with ⟨k', f0, f1⟩ | ⟨f0, f1⟩
      · cases f0
        exact h.inj b b' _ _ g1 f1
      · cases f0
    · rcases labE_at hb' with ⟨k', rfl, f1⟩ | ⟨f0, f1⟩
      · cases g0
      · exact h.inj b b' _ _ g1 f1

theorem closeL_part : ∀ {xs cs : List A} {hp : Hp} {us : List (Id × Option Root)} {rd : List Id}, closeL hp xs = some (cs, us, rd) → ∀ x ∈ xs, okPart x = true ∧ cellsA x = [x]
  | [], _, _, _, _, _ => by simp
  | x :: xs, cs, hp, us, rd, h => by
    unfold closeL at h
    split at h
    · cases h
    · rename_i c u rd1 h1
      split at h
      · cases h
      · rename_i cs1 us1 rds1 h2
        intro y hy
        rcases List.mem_cons.1 hy with rfl | hy
        · cases y <;> first | exact ⟨rfl, rfl⟩ | simp [close1] at h1
        · exact closeL_part h2 y hy

theorem flat_part : ∀ {vs cs : List A} {hp : Hp} {us : List (Id × Option Root)} {rd : List Id}, closeL hp (flatA vs) = some (cs, us, rd) → ∀ v ∈ vs, okPart v = true := by
  intro vs cs hp us rd h v hv
  have hc := closeL_part h
  cases v with
  | ub => exact (hc .ub (by simp only [flatA, List.mem_flatten, List.mem_map]; exact ⟨[.ub], ⟨.ub, hv, rfl⟩, by simp⟩)).1
  | und => exact (hc .und (by simp only [flatA, List.mem_flatten, List.mem_map]; exact ⟨[.und], ⟨.und, hv, rfl⟩, by simp⟩)).1
  | tup xs => exact (hc (.tup xs) (by simp only [flatA, List.mem_flatten, List.mem_map]; exact ⟨[.tup xs], ⟨.tup xs, hv, rfl⟩, by simp⟩)).1
  | _ => rfl

abbrev flatV (us : List Value) : List Value := (us.map fun u => u.cells.toList).flatten

theorem repL_append [Use] : ∀ {xs ys : List A} {us vs : List Value}, RepL U w L hp xs us → RepL U w L hp ys vs → RepL U w L hp (xs ++ ys) (us ++ vs)
  | [], ys, [], vs, _, h => h
  | x :: xs, ys, u :: us, vs, h1, h2 => by simp only [RepL, List.cons_append] at h1 ⊢; exact ⟨h1.1, repL_append h1.2 h2⟩
  | [], _, _ :: _, _, h, _ => by simp [RepL] at h
  | _ :: _, _, [], _, h, _ => by simp [RepL] at h

theorem flat_rep [Use] : ∀ {vs : List A} {us : List Value}, RepL U w L hp vs us → (∀ v ∈ vs, okPart v = true) → RepL U w L hp (flatA vs) (flatV us)
  | [], [], _, _ => by simp [flatA, flatV, RepL]
  | v :: vs, u :: us, h, hk => by
    simp only [RepL] at h
    exact repL_append (rep_cells h.1 (hk v (by simp))) (flat_rep h.2 fun x hx => hk x (by simp [hx]))
  | [], _ :: _, h, _ => by simp [RepL] at h
  | _ :: _, [], h, _ => by simp [RepL] at h

theorem ownL_len [Use] {id : Id} {p : List Nat} : ∀ {cs : List A} {k : Nat} {us : List Value}, OwnL w L cs id p k us → cs.length ≤ us.length
  | [], _, _, _ => Nat.zero_le _
  | c :: cs, k, u :: us, h => by simp only [OwnL] at h; have := ownL_len h.2; simp; omega
  | _ :: _, _, [], h => by simp [OwnL] at h

theorem owns_of [Use] : ∀ {cs : List A} {k : Nat} {us : List Value}, cs.length = us.length → OwnL w L cs (m, 999) [] k us → Owns w (labE L m) 0 k cs us
  | [], k, [], _, _ => by simp [Owns]
  | c :: cs, k, u :: us, hl, h => by
    simp only [OwnL] at h
    simp only [Owns]
    exact ⟨⟨h.1.1, own_E h.1.2⟩, owns_of (by simpa using hl) h.2⟩
  | [], _, _ :: _, hl, _ => by simp at hl
  | _ :: _, _, [], hl, _ => by simp at hl

theorem ownL_split [Use] {id : Id} {p : List Nat} : ∀ (n : Nat) (cs : List A) (k : Nat) (us vs : List Value), us.length = n → n ≤ cs.length → OwnL w L cs id p k (us ++ vs) → OwnL w L (cs.take n) id p k us ∧ OwnL w L (cs.drop n) id p (k + n) vs
  | 0, cs, k, us, vs, hu, _, h => by
    cases us with
    | nil => simpa [OwnL] using h
    | cons u us => simp at hu
  | n + 1, c :: cs, k, u :: us, vs, hu, hn, h => by
    simp only [List.cons_append, OwnL] at h
    obtain ⟨h1, h2⟩ := ownL_split n cs (k + 1) us vs (by simpa using hu) (by simpa using hn) h.2
    simp only [List.take_succ_cons, List.drop_succ_cons, OwnL]
    exact ⟨⟨h.1, h1⟩, by rwa [show k + (n + 1) = k + 1 + n from by omega]⟩
  | n + 1, [], _, _, _, _, hn, _ => by simp at hn
  | n + 1, _ :: _, _, [], _, hu, _, _ => by simp at hu

theorem rep_agg_len [Use] {xs : List A} {us : List Value} (h : RepL U w L hp xs us) : us.length = xs.length := (repL_get h).1

theorem res1_cell [Use] {c : A} {k : Nat} {u : Value} (h1 : u.oneCell' = true) (h : Own w L c (m, 999) ([] ++ [k]) u) : Res1 w (labE L m) 0 k c u := by
  have := own_E h
  cases c <;> first | exact ⟨h1, this⟩ | (simp [Own] at h)

theorem own_cells1 [Use] {c : A} {id : Id} {p : List Nat} {u : Value} (h : Own w L c id p u) : cellsA c = [c] := by
  cases c <;> first | rfl | (simp [Own] at h)

/-- The results, closed. -/
theorem resT_of [Use] : ∀ {vs : List A} {us : List Value} {cs : List A} {k : Nat}, RepL U w L hp vs us → (∀ v ∈ vs, okPart v = true) → (∀ x ∈ flatA vs, cellsA x = [x]) → cs.length = (flatA vs).length → OwnL w L cs (m, 999) [] k (flatV us) →
    ResT w (labE L m) 0 k (regroup vs cs) us
  | [], [], cs, k, _, _, _, hl, _ => by simp [regroup, ResT]
  | v :: vs, u :: us, cs, k, h, hk, hx, hl, ho => by
    simp only [RepL] at h
    by_cases hv : ∃ xs, v = .agg xs
    · obtain ⟨xs, rfl⟩ := hv
      have hu := h.1
      simp only [Rep] at hu
      obtain ⟨ua, rfl, hu⟩ := hu
      have hlen := rep_agg_len hu
      have hcl : (flatA (.agg xs :: vs)).length = xs.length + (flatA vs).length := by simp [flatA, cellsA]
      have hflat : flatV (.agg ua :: us) = ua.toList ++ flatV us := rfl
      rw [hflat] at ho
      obtain ⟨o1, o2⟩ := ownL_split xs.length cs k ua.toList (flatV us) hlen (by omega) ho
      simp only [regroup, ResT, Res1, cellsA]
      refine ⟨⟨ua, rfl, owns_of (by rw [List.length_take]; omega) o1⟩, ?_⟩
      have e : (cs.take xs.length).length = xs.length := by rw [List.length_take]; omega
      rw [e]
      exact resT_of h.2 (fun y hy => hk y (by simp [hy])) (fun y hy => hx y (by simp only [flatA, List.map_cons, List.flatten_cons, List.mem_append]; exact .inr hy)) (by rw [List.length_drop]; omega) o2
    · have hc1 : cellsA v = [v] := by cases v <;> first | rfl | exact absurd ⟨_, rfl⟩ hv
      have hu1 : u.cells.toList = [u] := by
        have := rep_cells h.1 (hk v (by simp))
        rw [hc1] at this
        have hr := h.1
        have hkv := hk v (by simp)
        cases v with
        | i k n => simp only [Rep] at hr; rw [hr.1]; rfl
        | b x => simp only [Rep] at hr; rw [hr]; rfl
        | s o sz len cs' =>
          cases o with
          | true => simp only [Rep] at hr; rw [hr.1]; rfl
          | false => simp only [Rep, Imm] at hr; obtain ⟨_, _, e, _⟩ := hr; rw [e]; rfl
        | ref => simp only [Rep] at hr; obtain ⟨_, _, _, _, e, _⟩ := hr; rw [e]; rfl
        | ptr => simp only [Rep] at hr; obtain ⟨_, _, _, e, _⟩ := hr; rw [e]; rfl
        | ep => simp only [Rep] at hr; obtain ⟨_, e, _⟩ := hr; rw [e]; rfl
        | agg xs => exact absurd ⟨_, rfl⟩ hv
        | tup => simp [okPart] at hkv
        | und => simp [okPart] at hkv
        | ub => simp [okPart] at hkv
      have hflat : flatV (u :: us) = u :: flatV us := by simp [flatV, hu1]
      rw [hflat] at ho
      have hcl : (flatA (v :: vs)).length = (flatA vs).length + 1 := by simp [flatA, hc1]
      cases cs with
      | nil => simp at hl; omega
      | cons c cs =>
        simp only [OwnL] at ho
        have hrg : regroup (v :: vs) (c :: cs) = c :: regroup vs cs := by
          cases v <;> first | rfl | exact absurd ⟨_, rfl⟩ hv
        rw [hrg]
        simp only [ResT]
        refine ⟨res1_cell ho.1.1 ho.1.2, ?_⟩
        rw [own_cells1 ho.1.2]
        exact resT_of h.2 (fun y hy => hk y (by simp [hy])) (fun y hy => hx y (by simp only [flatA, List.map_cons, List.flatten_cons, List.mem_append]; exact .inr hy)) (by simp at hl; simp only [flatA] at hcl ⊢; simp only [flatA] at hl; omega) ho.2
  | [], _ :: _, _, _, h, _, _, _, _ => by simp [RepL] at h
  | _ :: _, [], _, _, h, _, _, _, _ => by simp [RepL] at h

def tupV (us : List Value) : Value := match us with
  | [u] => u
  | us => .tuple us.toArray

theorem regroup_len : ∀ {vs cs : List A}, cs.length = (flatA vs).length → (regroup vs cs).length = vs.length
  | [], cs, _ => rfl
  | v :: vs, cs, h => by
    by_cases hv : ∃ xs, v = .agg xs
    · obtain ⟨xs, rfl⟩ := hv
      simp only [regroup, List.length_cons]
      rw [regroup_len (by simp [flatA, cellsA] at h ⊢; omega)]
    · have hc1 : cellsA v = [v] := by cases v <;> first | rfl | exact absurd ⟨_, rfl⟩ hv
      cases cs with
      | nil => simp [flatA, hc1] at h
      | cons c cs =>
        have hrg : regroup (v :: vs) (c :: cs) = c :: regroup vs cs := by
          cases v <;> first | rfl | exact absurd ⟨_, rfl⟩ hv
        rw [hrg]
        simp only [List.length_cons]
        rw [regroup_len (by simp [flatA, hc1] at h ⊢; omega)]

theorem resOwn_of [Use] {rs : List A} {us : List Value} (hl : rs.length = us.length) (h : ResT w L m 0 rs us) (hnt : ∀ r ∈ rs, ∀ xs, r ≠ .tup xs) : ResOwn w L m (tupOf rs) (tupV us) := by
  match rs, us, hl with
  | [r], [u], _ =>
    simp only [ResT] at h
    simp only [tupOf, tupV]
    unfold ResOwn
    split
    · exact (hnt _ (List.mem_singleton.2 rfl) _ rfl).elim
    · exact h.1
  | [], [], _ => simp only [tupOf, tupV, ResOwn]; exact ⟨#[], rfl, by simpa using h⟩
  | r1 :: r2 :: rs, u1 :: u2 :: us, _ => simp only [tupOf, tupV, ResOwn]; exact ⟨(u1 :: u2 :: us).toArray, rfl, by simpa using h⟩

theorem resT_notup [Use] : ∀ {rs : List A} {us : List Value} {k : Nat}, ResT w L m k rs us → ∀ r ∈ rs, ∀ xs, r ≠ .tup xs
  | [], _, _, _ => by simp
  | r :: rs, u :: us, k, h => by
    simp only [ResT] at h
    intro r' hr' xs e
    rcases List.mem_cons.1 hr' with rfl | hr'
    · subst e; simp [Res1] at h
    · exact resT_notup h.2 r' hr' xs e
  | _ :: _, [], _, h => by simp [ResT] at h

/-- The blocks of a root from here on only read. -/
def frzLab (L : Lab) (id : Id) : Lab := fun b => match L b with
  | .at i p => if i = id then .prot else .at i p
  | .prot => .prot
  | .free => .free

theorem frzLab_at {id i : Id} {b : Nat} {p : List Nat} (h : frzLab L id b = .at i p) : i ≠ id ∧ L b = .at i p := by
  unfold frzLab at h
  split at h
  · split at h
    · cases h
    · cases h; exact ⟨by assumption, by assumption⟩
  · cases h
  · cases h
theorem frzLab_ne {id i : Id} {b : Nat} {p : List Nat} (h : L b = .at i p) (hi : i ≠ id) : frzLab L id b = .at i p := by simp [frzLab, h, hi]
theorem frzLab_id {id : Id} {b : Nat} {p : List Nat} (h : L b = .at id p) : frzLab L id b = .prot := by simp [frzLab, h]
theorem frzLab_prot {id : Id} {b : Nat} (h : L b = .prot) : frzLab L id b = .prot := by simp [frzLab, h]
theorem frzLab_free {id : Id} {b : Nat} (h : L b = .free) : frzLab L id b = .free := by simp [frzLab, h]

theorem freeze_ok [Use] (h : HRel w0 L0 U hp w L) (id : Id) : HRel w0 L0 U (upd hp id none) w (frzLab L id) ∧ Keeps U w L hp U w (frzLab L id) (upd hp id none) := by
  have hne : ∀ i r, upd hp id none i = some r → i ≠ id ∧ hp i = some r := by
    intro i r hr
    by_cases hi : i = id
    · subst hi; rw [upd_same] at hr; cases hr
    · rw [upd_ne _ _ _ _ hi] at hr; exact ⟨hi, hr⟩
  refine ⟨⟨fun i r hr => ?_, fun b b' i p hb hb' => ?_, fun b hb => frzLab_free (h.free b hb), fun b i p hb => h.used b i p (frzLab_at hb).2, fun i r hr => h.usedR i r (hne i r hr).2, fun b hb => ⟨frzLab_prot (h.prot b hb).1, (h.prot b hb).2⟩, h.size, h.os, h.tape, h.output, h.use, h.frz⟩,
    ⟨fun _ hk => hk, fun b hb => ⟨frzLab_prot hb, rfl⟩, fun i r hr _ => ⟨r, (hne i r hr).2, fun _ => Nat.le_refl _⟩, fun i p v hu hv hn => ?_⟩⟩
  · obtain ⟨hi, hr⟩ := hne i r hr
    obtain ⟨u, hu⟩ := h.roots i r hr
    exact ⟨u, Own.move (fun b hb => ⟨frzLab_prot hb, rfl⟩) _ [] [] u (fun b q hq => ⟨frzLab_ne hq hi, rfl⟩) hu⟩
  · exact h.inj b b' i p (frzLab_at hb).2 (frzLab_at hb').2
  · have hi : i ≠ id := by
      rintro rfl
      simp [TM.node, upd_same] at hn
    have e : TM.node (upd hp id none) i p v = TM.node hp i p v := by unfold TM.node; rw [upd_ne _ _ _ _ hi]
    rw [e] at hn
    exact ⟨hn, fun b hb => ⟨frzLab_ne hb hi, fun cur e hc => ⟨cur, hc, rfl⟩⟩⟩

theorem frz1_ok [B : Use] (h : HRel w0 L0 U hp w L) {v c : A} {u : Value} {us : List (Id × Option Root)} (hv : Rep U w L hp v u) (hf : frz1 hp v = some (c, us)) :
    ∃ L1, HRel w0 L0 U (applyH hp us) w L1 ∧ Keeps U w L hp U w L1 (applyH hp us) ∧ Rep U w L1 (applyH hp us) c u ∧ ∀ b i p, L1 b = .at i p → L b = .at i p := by
  unfold frz1 at hf
  split at hf
  · rename_i id ver off sz len
    rw [Option.map_eq_some_iff] at hf
    obtain ⟨⟨c', rd⟩, hs, he⟩ := hf
    cases he
    obtain ⟨k1, k2⟩ := freeze_ok h id
    have e : applyH hp [(id, none)] = upd hp id none := rfl
    rw [e]
    refine ⟨_, k1, k2, ?_⟩
    have hc : Imm w (isProt (frzLab L id)) c' u := snap1_imm h (Q := isProt (frzLab L id)) (fun b hb => ⟨frzLab_prot hb.1, hb.2⟩) hv hs fun i hi b q hq => by
      have hid : i = id := by
        unfold snap1 at hs
        simp only at hs
        split at hs
        · split at hs
          · cases hs; simpa using hi
          · cases hs
        · cases hs
      subst hid
      exact ⟨frzLab_id hq, h.use b fun hp => by rw [(h.prot b hp).1] at hq; cases hq⟩
    have hf' : ∃ sz len cs, c' = .s false sz len cs := by
      unfold snap1 at hs
      simp only at hs
      split at hs
      · split at hs
        · cases hs; exact ⟨_, _, _, rfl⟩
        · cases hs
      · cases hs
    obtain ⟨sz', len', cs, rfl⟩ := hf'
    exact ⟨by simpa only [Rep] using hc, fun b i p hb => (frzLab_at hb).2⟩
  · cases hf
    exact ⟨L, h, Keeps.rfl', hv, fun _ _ _ hb => hb⟩

theorem frzL_ok [B : Use] : ∀ {vs cs : List A} {hp : Hp} {L : Lab} {vals : List Value} {us : List (Id × Option Root)}, HRel w0 L0 U hp w L → RepL U w L hp vs vals → frzL hp vs = some (cs, us) →
    ∃ L1, HRel w0 L0 U (applyH hp us) w L1 ∧ Keeps U w L hp U w L1 (applyH hp us) ∧ RepL U w L1 (applyH hp us) cs vals ∧ ∀ b i p, L1 b = .at i p → L b = .at i p
  | [], cs, hp, L, vals, us, h, hv, hf => by
    cases hf
    exact ⟨L, h, Keeps.rfl', hv, fun _ _ _ hb => hb⟩
  | v :: vs, cs, hp, L, vals, us, h, hv, hf => by
    cases vals with
    | nil => simp [RepL] at hv
    | cons u vals =>
      simp only [RepL] at hv
      unfold frzL at hf
      split at hf
      · cases hf
      · rename_i c us1 h1
        split at hf
        · cases hf
        · rename_i cs1 us2 h2
          cases hf
          obtain ⟨L1, k1, k2, k3, k4⟩ := frz1_ok h hv.1 h1
          obtain ⟨L2, m1, m2, m3, m4⟩ := frzL_ok k1 (RepL.mono k2 _ _ hv.2) h2
          rw [applyH_append]
          refine ⟨L2, m1, k2.trans m2, ?_⟩
          simp only [RepL]
          exact ⟨⟨Rep.mono m2 _ _ k3, m3⟩, fun b i p hb => k4 b i p (m4 b i p hb)⟩

theorem frzL_part : ∀ {xs cs : List A} {hp : Hp} {us : List (Id × Option Root)}, frzL hp xs = some (cs, us) → (∀ x ∈ cs, okPart x = true ∧ cellsA x = [x]) → cs.length = xs.length ∧ ∀ x ∈ xs, okPart x = true ∧ cellsA x = [x]
  | [], _, _, _, h, _ => by cases h; simp
  | x :: xs, cs, hp, us, h, hc => by
    unfold frzL at h
    split at h
    · cases h
    · rename_i c u h1
      split at h
      · cases h
      · rename_i cs1 us1 h2
        cases h
        obtain ⟨e1, e2⟩ := frzL_part h2 fun y hy => hc y (by simp [hy])
        refine ⟨by simp [e1], fun y hy => ?_⟩
        rcases List.mem_cons.1 hy with rfl | hy
        · unfold frz1 at h1
          split at h1
          · exact ⟨rfl, rfl⟩
          · cases h1
            exact hc _ (by simp)
        · exact e2 y hy

theorem frzL_used : ∀ {xs cs : List A} {hp : Hp} {us : List (Id × Option Root)}, (∀ id r, hp id = some r → U id.1) → frzL hp xs = some (cs, us) → ∀ i ∈ us.map (·.1), U i.1
  | [], _, _, _, _, h => by cases h; simp
  | x :: xs, cs, hp, us, hU, h => by
    unfold frzL at h
    split at h
    · cases h
    · rename_i c u h1
      split at h
      · cases h
      · rename_i cs1 us1 h2
        cases h
        have h3 : ∀ i ∈ u.map (·.1), U i.1 := by
          unfold frz1 at h1
          split at h1
          · rename_i id ver off sz len
            rw [Option.map_eq_some_iff] at h1
            obtain ⟨⟨c', rd⟩, hs, he⟩ := h1
            cases he
            intro i hi
            simp only [List.map_cons, List.map_nil, List.mem_singleton] at hi
            subst hi
            unfold snap1 at hs
            simp only at hs
            split at hs
            · rename_i hn
              unfold node at hn
              split at hn
              · exact hU _ _ (by assumption)
              · cases hn
            · cases hs
          · cases h1; simp
        have hU' : ∀ id r, applyH hp u id = some r → U id.1 := by
          intro id r hr
          unfold frz1 at h1
          split at h1
          · rename_i id' ver off sz len
            rw [Option.map_eq_some_iff] at h1
            obtain ⟨⟨c', rd⟩, hs, he⟩ := h1
            cases he
            change upd hp id' none id = some r at hr
            by_cases hi : id = id'
            · subst hi; rw [upd_same] at hr; cases hr
            · rw [upd_ne _ _ _ _ hi] at hr; exact hU _ _ hr
          · cases h1
            exact hU id r hr
        intro i hi
        simp only [List.map_append, List.mem_append] at hi
        rcases hi with hi | hi
        · exact h3 i hi
        · exact frzL_used hU' h2 i hi

theorem fin_ok [Use] (h : HRel w0 L0 U hp w L) (hm : 3 ≤ m) (hU : ¬ U m) {vs : List A} {us : List Value} (hv : RepL U w L hp vs us) {r : A} {ups : List (Id × Option Root)} (hf : finV hp vs = some (r, ups)) :
    ∃ L1, HRel w0 L0 (addU U m) (applyH hp ups) w L1 ∧ Keeps U w L hp U w L1 (applyH hp ups) ∧ ResOwn w (labE L1 m) 0 r (tupV us) := by
  have h' : HRel w0 L0 (addU U m) hp w L := h.mono fun k hk => addU_l hk
  have hv' : RepL (addU U m) w L hp vs us := RepL.mono (keeps_ups (U := U) (V := addU U m) [] (by simp) fun k hk => addU_l hk) _ _ hv
  unfold finV at hf
  split at hf
  · rename_i id path ver off
    split at hf
    · rename_i r0 hr0
      split at hf
      · rename_i hc
        obtain ⟨rfl, rfl, hlen⟩ := hc
        cases hf
        obtain ⟨k1, k2, k3⟩ := move_ok (path := []) h' hr0 (m, 999) [0] (.inr rfl) fun b q => fresh_lab h hU 999 b _
        refine ⟨_, k1, k2.restrict fun k hk => addU_l hk, ?_⟩
        cases us with
        | nil => simp [RepL] at hv
        | cons u us =>
          cases us with
          | cons _ _ => simp [RepL] at hv
          | nil =>
            simp only [RepL, Rep] at hv
            obtain ⟨⟨_, _, ad, rfl, h5⟩, _⟩ := hv
            obtain ⟨b, rfl, h6⟩ := h5 (by simp [node, hr0, verOk, getP])
            obtain ⟨u1, hu1⟩ := h.roots id r0 hr0
            have hlab : ∀ b q, L b = .at id q → labE (relab L id [] (m, 999) [0]) m b = .at (0, 0) q := fun b q hq => by
              have : relab L id [] (m, 999) [0] b = .at (m, 999) ([0] ++ q) := relab_moved (by simpa using hq)
              rw [labE_res (by simpa using this)]
            have hprot : ∀ b, L b = .prot → labE (relab L id [] (m, 999) [0]) m b = .prot ∧ w.heap[b]? = w.heap[b]? := fun b hb => ⟨labE_prot (k3 b hb).1, rfl⟩
            have hu2 := Own.move hprot _ [] [] u1 (fun b q hq => ⟨hlab b _ hq, rfl⟩) hu1
            simp only [tupV, ResOwn, Res1]
            simp only [Own] at hu1
            rcases hu1 with ⟨_, h0, _⟩ | ⟨b', cur, e, cap, rfl, g2, g3, g4, g5, g6, g7, g8⟩
            · omega
            · obtain rfl := h.inj b b' id [] h6 g2
              refine ⟨b, cap, rfl, hlab b [] h6, ?_⟩
              have e1 : r0.cs.length = r0.sz := by rw [g7, hlen, Nat.one_mul]
              rw [e1]
              rw [hlen] at hu2
              exact hu2
      · cases hf
    · cases hf
  · split at hf
    · rename_i xs us0 hfz
      simp only [Option.map_eq_some_iff] at hf
      obtain ⟨⟨cs, us', rd⟩, h1, h2⟩ := hf
      cases h2
      have hcell := closeL_part h1
      obtain ⟨hxl, hcell0⟩ := frzL_part hfz hcell
      have hpart : ∀ v ∈ vs, okPart v = true := by
        intro v hv
        cases v with
        | ub => exact (hcell0 .ub (by simp only [flatA, List.mem_flatten, List.mem_map]; exact ⟨[.ub], ⟨.ub, hv, rfl⟩, by simp⟩)).1
        | und => exact (hcell0 .und (by simp only [flatA, List.mem_flatten, List.mem_map]; exact ⟨[.und], ⟨.und, hv, rfl⟩, by simp⟩)).1
        | tup ys => exact (hcell0 (.tup ys) (by simp only [flatA, List.mem_flatten, List.mem_map]; exact ⟨[.tup ys], ⟨.tup ys, hv, rfl⟩, by simp⟩)).1
        | _ => rfl
      obtain ⟨L0', q1, q2, q3, q4⟩ := frzL_ok h' (flat_rep hv' hpart) hfz
      have hus0 := frzL_used (U := U) h.usedR hfz
      have hused0 : ∀ id r, applyH hp us0 id = some r → U id.1 := by
        intro id r hr
        by_cases hi : id ∈ us0.map (·.1)
        · exact hus0 id hi
        · rw [applyH_other _ _ hi] at hr
          exact h.usedR id r hr
      have hused := closeL_used (U := U) _ _ _ _ _ hused0 h1
      have hmu : (m, 999) ∉ us'.map (·.1) := fun hmem => hU (hused _ hmem)
      obtain ⟨L1, k1, k2, k3, k4, k5, k6⟩ := closeL_ok (m, 999) [] (.inr rfl) xs (flatV us) 0 (applyH hp us0) L0' cs us' rd q1 q3 h1 hmu fun b j q _ _ => fun hb => fresh_lab h hU 999 b _ (q4 _ _ _ hb)
      rw [applyH_append]
      refine ⟨L1, k1, (q2.trans k3).restrict fun k hk => addU_l hk, ?_⟩
      have hT := resT_of (RepL.mono (q2.trans k3) _ _ hv') hpart (fun x hx => (hcell0 x hx).2) (by rw [k5, hxl]) k2
      exact resOwn_of (by rw [regroup_len (by rw [k5, hxl])]; exact (rep_agg_len hv).symm) hT (resT_notup hT)
    · cases hf

/-- What a result is. -/
def ResAt (P : Program) (tmps : Array Value) (w : World) : ResultVar → Value → Prop
  | .tmp t, u => u = tmps.getD t undef
  | .cell a t, u => ∃ ad, tmps.getD a undef = .pointer (some ad) ∧ (loadVar t ad).run P w = .ok u w

def ResL (P : Program) (tmps : Array Value) (w : World) : List ResultVar → List Value → Prop
  | [], [] => True
  | r :: rs, u :: us => ResAt P tmps w r u ∧ ResL P tmps w rs us
  | _, _ => False

def resSem (tmps : Array Value) : ResultVar → Sem Value
  | .tmp t => pure (tmps.getD t undef)
  | .cell a t => do loadVar t (← asAddr (tmps.getD a undef))

theorem resSem_run {tmps : Array Value} {r : ResultVar} {u : Value} (h : ResAt P tmps w r u) : (resSem tmps r).run P w = .ok u w := by
  cases r with
  | tmp t => simp only [ResAt] at h; simp [resSem, h, go_sem]
  | cell a t =>
    obtain ⟨ad, h1, h2⟩ := h
    simp only [resSem, h1, asAddr, Sem.run_bind, Sem.run_pure, Result.andThen]
    exact h2

theorem resL_run {tmps : Array Value} : ∀ {rs : List ResultVar} {us : List Value}, ResL P tmps w rs us → (rs.mapM (resSem tmps)).run P w = .ok us w
  | [], [], _ => by simp [go_sem]
  | r :: rs, u :: us, h => by
    simp only [ResL] at h
    rw [List.mapM_cons]
    simp only [Sem.run_bind, resSem_run h.1, Result.andThen, resL_run h.2, Sem.run_pure]
  | [], _ :: _, h => by simp [ResL] at h
  | _ :: _, [], h => by simp [ResL] at h

theorem results_run {fn : Func} {tmps : Array Value} {rs : List ResultVar} (hrs : fn.results.toList = rs) {us : List Value} (h : ResL P tmps w rs us) : (results fn tmps).run P w = .ok (tupV us) w := by
  have e : results fn tmps = (fn.results.mapM (resSem tmps)) >>= fun vs => pure (if h : vs.size = 1 then vs[0] else .tuple vs) := rfl
  rw [e, Array.mapM_eq_mapM_toList, hrs]
  simp only [Sem.run_bind, Sem.run_map, resL_run h, Result.andThen, Sem.run_pure]
  match us with
  | [] => rfl
  | [u] => rfl
  | u1 :: u2 :: us => rfl

theorem ress_ok [Use] (hT : TabOk P T) {tmps : Array Value} {st : St} (h : HRel w0 L0 U st.hp w L) (hs : Slots U w L st.hp st.sl tmps) : ∀ (rs : List ResultVar) (vs : List A), ressOf T st rs = some vs → ∃ us, ResL P tmps w rs us ∧ RepL U w L st.hp vs us
  | [], vs, he => by
    cases he
    exact ⟨[], trivial, by simp [RepL]⟩
  | r :: rs, vs, he => by
    unfold ressOf at he
    split at he
    · rename_i v vs' h1 h2
      cases he
      obtain ⟨us, g1, g2⟩ := ress_ok hT h hs rs vs' h2
      cases r with
      | tmp t =>
        simp only [resOf] at h1
        cases h1
        exact ⟨tmps.getD t undef :: us, ⟨rfl, g1⟩, by simp only [RepL]; exact ⟨hs t, g2⟩⟩
      | cell a t =>
        simp only [resOf] at h1
        split at h1
        · rename_i ti ht
          rw [Option.map_eq_some_iff] at h1
          obtain ⟨e, he, rfl⟩ := h1
          obtain ⟨_, u, f1, f2⟩ := load_ok (P := P) hT h ht (hs a) he
          have hptr : ∃ ad, tmps.getD a undef = .pointer (some ad) := by
            have hr := hs a
            cases hsl : st.sl a with
            | ptr id p v off => rw [hsl] at hr; simp only [Rep] at hr; obtain ⟨_, _, ad, e, _⟩ := hr; exact ⟨ad, e⟩
            | ep cs => rw [hsl] at hr; simp only [Rep] at hr; obtain ⟨ad, e, _⟩ := hr; exact ⟨ad, e⟩
            | _ => rw [hsl] at he; simp [loadA] at he
          obtain ⟨ad, had⟩ := hptr
          refine ⟨u :: us, ⟨⟨ad, had, ?_⟩, g1⟩, by simp only [RepL]; exact ⟨f2, g2⟩⟩
          rw [had] at f1
          simpa [Instr.loadAt, Instr.sureAddr] using f1
        · cases h1
    · cases he

end
end Go.TM

/-! The tree machine, 27: a body that computes what the model says meets the contract. -/
namespace Go.TM
set_option linter.unusedVariables false
set_option linter.unusedSimpArgs false

theorem okC_mono {chk : Nat → Array Oper → Bool} {N N' : Nat} (hN : N ≤ N') : ∀ (c : Code), okC chk N c = true → okC chk N' c = true := by
  intro c
  induction c with
  | region id ops draw =>
    intro h
    simp only [okC, Bool.and_eq_true, List.all_eq_true] at h ⊢
    refine ⟨fun o ho => ?_, h.2⟩
    have := h.1 o ho
    cases hd : o.dst with
    | none => rfl
    | some t =>
      rw [hd] at this
      simp only [decide_eq_true_eq] at this ⊢
      exact Nat.lt_of_lt_of_le this hN
  | seq x y ihx ihy => intro h; simp only [okC, Bool.and_eq_true] at h ⊢; exact ⟨ihx h.1, ihy h.2⟩
  | cond _ x y ihx ihy => intro h; simp only [okC, Bool.and_eq_true] at h ⊢; exact ⟨ihx h.1, ihy h.2⟩
  | block _ c ih => intro h; simp only [okC] at h ⊢; exact ih h
  | loop c ih => intro h; simp only [okC] at h ⊢; exact ih h
  | _ => intro h; rfl

/-- Of a state at a body's end, what the caller is promised. -/
theorem body_end [B : Use] {P : Program} {T : Nat → Option TI} (hT : TabOk P T) {w0 : World} {L0 : Lab} {hpB : Hp} {N : Nat} {st : St} {a : Act} {w : World} {L : Lab} {rs : List ResultVar} {shs : List (Nat × Nat)} {r : A} {outs : List (List A)}
    (h : At w0 L0 hpB N st a w L) (hf : finalA T rs shs st = some (r, outs)) : ∃ us, ResL P a.tmps w rs us ∧ Post w0 L0 shs r outs (.returned (tupV us)) w := by
  unfold finalA at hf
  split at hf
  · cases hf
  · rename_i vs hvs
    split at hf
    · cases hf
    · rename_i r' ups hfin
      rw [Option.map_eq_some_iff] at hf
      obtain ⟨outs', hio, e⟩ := hf
      cases e
      have h3 : 3 ≤ st.n := by have := h.keeps.used 2 (by simp [ltN]); simp only [ltN] at this; omega
      obtain ⟨us, q1, q2⟩ := ress_ok (P := P) hT h.h h.s rs vs hvs
      obtain ⟨L1, k1, k2, k3⟩ := fin_ok h.h h3 (Nat.lt_irrefl _ : ¬ ltN st.n st.n) q2 hfin
      refine ⟨us, q1, _, labE L1 st.n, rfl, ?_, k3, fun t b ht hb => ?_⟩
      · exact end_h k1 h3 hio
      · obtain ⟨e1, e2⟩ := iosOf_get hio
        obtain ⟨sh, hsh⟩ : ∃ sh, shs[t]? = some sh := ⟨shs[t], by simp [ht]⟩
        obtain ⟨cs, hcs⟩ : ∃ cs, outs[t]? = some cs := ⟨outs[t]'(by omega), by simp [show t < outs.length from by omega]⟩
        obtain ⟨r1, f1, _⟩ := e2 t sh cs hsh hcs
        rw [Nat.zero_add] at f1
        have hn : node (applyH st.hp ups) (2, t) [] 0 ≠ none := by simp [node, f1, verOk, getP]
        have hkk := h.keeps.trans k2
        obtain ⟨_, g2⟩ := hkk.node (2, t) [] 0 (by simp [ltN]) (fun r _ c p hp => by cases hp) hn
        obtain ⟨g3, g4⟩ := g2 b hb
        exact ⟨labE_io h3 g3, g4⟩

theorem contract_of_does {P : Program} {T : Nat → Option TI} {G : Nat → Option FM} {DT : Nat → List (Nat × Nat)} {f : Nat} {fn : Func} {c : Code} {M : Model} (hmx : P.follows .mixedOrders = true) (hT : TabOk P T) (hG : GOk P G)
    (hf : P.funcs[f]? = some fn) (hb : fn.body = some c) (hok : okC (fun id ops => chkD (DT id) ops) fn.ntmps c = true) (hd : Does T G DT fn M) : Contract P f M := by
  refine ⟨fun B w L vals args r outs hM h hs _ => ?_, fun hcl args r outs hM => (hd c hb args r outs hM).1 hcl⟩
  refine calls_of_wp hf hb ?_
  obtain ⟨_, hw⟩ := hd c hb args r outs hM
  have hN : (vals ++ Array.replicate (fn.ntmps - vals.size) undef).size = vals.size + (fn.ntmps - vals.size) := by simp
  have hat : At w L (initHp 0 0 M.kinds args) (vals.size + (fn.ntmps - vals.size)) (initSt M.kinds args) { tmps := vals ++ Array.replicate (fn.ntmps - vals.size) undef, defers := [] } w L := by
    refine ⟨h, fun t => ?_, hN, rfl, Keeps.rfl'⟩
    have := hs t
    have e : (vals ++ Array.replicate (fn.ntmps - vals.size) undef).getD t undef = vals.getD t undef := by
      simp only [Array.getD_eq_getD_getElem?, Array.getElem?_append]
      split
      · rfl
      · rename_i hlt
        rw [Array.getElem?_eq_none (show vals.size ≤ t from by omega)]
        simp [Array.getElem?_replicate]
        split <;> rfl
    rw [e]
    exact this
  refine W_ok (P := P) hT hG (draw_ok hmx hT hG) c _ _ _ _ w L (okC_mono (by omega) c hok) hw hat fun e st' a' w' L' he h' => ?_
  obtain ⟨he, hfin⟩ := he
  obtain ⟨us, hres, hpost⟩ := body_end (P := P) hT h' hfin
  rcases he with rfl | rfl <;> exact ⟨h'.defers, _, results_run rfl hres, hpost⟩

end Go.TM
