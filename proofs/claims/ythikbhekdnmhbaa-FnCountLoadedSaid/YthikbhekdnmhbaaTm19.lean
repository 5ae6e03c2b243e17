/- The tree machine, 19: an operation looks only at what it names. -/
import Derived.Test.YthikbhekdnmhbaaTm20
namespace Go.TM
set_option linter.unusedVariables false
set_option linter.unusedSimpArgs false

section
variable {T : Nat → Option TI} {G : Nat → Option FM} {hp hp' : Hp} {m : Nat}

theorem node_congr {id : Id} {p : List Nat} {v : Nat} (h : hp' id = hp id) : node hp' id p v = node hp id p v := by unfold node; rw [h]

theorem applyH_congr {id : Id} (h : hp' id = hp id) (us : List (Id × Option Root)) : applyH hp' us id = applyH hp us id := by
  induction us generalizing hp hp' with
  | nil => exact h
  | cons u us ih =>
    refine ih (hp := upd hp u.1 u.2) (hp' := upd hp' u.1 u.2) ?_
    unfold upd
    split
    · rfl
    · exact h

theorem loadA_congr {ti : TI} {x : A} {e : Eff} (he : loadA ti hp x = some e) (h : ∀ id ∈ e.rd, hp' id = hp id) : loadA ti hp' x = some e := by
  unfold loadA at he ⊢
  split at he
  · rename_i id path ver off
    split at he
    · rename_i sz len cs r hn hr
      split at he
      · rename_i hc
        simp only [Option.map_eq_some_iff] at he
        obtain ⟨v, h1, h2⟩ := he
        cases h2
        have := h id (by simp)
        simp only [node_congr this, this, hn, hr, if_pos hc, h1, Option.map_some]
      · cases he
    · cases he
  · exact he
  · cases he

theorem close1_congr {x c : A} {us : List (Id × Option Root)} {rd : List Id} (he : close1 hp x = some (c, us, rd)) (h : ∀ id ∈ rd, hp' id = hp id) : close1 hp' x = some (c, us, rd) := by
  unfold close1 at he ⊢
  split at he
  · exact he
  · exact he
  · exact he
  · exact he
  · rename_i id path ver off sz len
    split at he
    · cases he
    · rename_i r hr
      split at he
      · rename_i hc
        split at he
        · rename_i sz' len' cs' hg
          split at he
          · rename_i hc2
            cases he
            have := h id (by simp)
            simp only [this, hr, if_pos hc, hg, if_pos hc2]
          · cases he
        · cases he
      · cases he
  · cases he

theorem closeL_congr : ∀ {vs cs : List A} {us : List (Id × Option Root)} {rd : List Id} {hp hp' : Hp}, closeL hp vs = some (cs, us, rd) → (∀ id ∈ rd, hp' id = hp id) → closeL hp' vs = some (cs, us, rd)
  | [], _, _, _, _, _, he, _ => he
  | v :: vs, cs, us, rd, hp, hp', he, h => by
    unfold closeL at he ⊢
    split at he
    · cases he
    · rename_i c u rd1 h1
      split at he
      · cases he
      · rename_i cs1 us1 rds1 h2
        cases he
        rw [close1_congr h1 fun id hid => h id (by simp [hid])]
        simp only
        rw [closeL_congr h2 fun id hid => applyH_congr (h id (by simp [hid])) u]

theorem storeA_congr {ti : TI} {x v : A} {e : Eff} (he : storeA ti hp x v = some e) (h : ∀ id ∈ e.rd, hp' id = hp id) : storeA ti hp' x v = some e := by
  unfold storeA at he ⊢
  split at he
  · rename_i id path ver off
    split at he
    · rename_i sz len cs cs' us rd hn hcl
      split at he
      · rename_i hc
        split at he
        · cases he
        · rename_i r hr
          cases he
          have := h id (by simp)
          simp only [node_congr this, hn, closeL_congr hcl fun id hid => h id (by simp [hid]), if_pos hc, this, hr]
      · cases he
    · cases he
  · cases he

theorem srcOf_congr {flat : Bool} {sz : Nat} {x : A} {cs : List A} {n : Nat} {us : List (Id × Option Root)} {rd : List Id} (he : srcOf hp flat sz x = some (cs, n, us, rd)) (h : ∀ id ∈ rd, hp' id = hp id) : srcOf hp' flat sz x = some (cs, n, us, rd) := by
  unfold srcOf at he ⊢
  split at he
  · exact he
  · rename_i id path ver off sz' len
    split at he
    · rename_i nsz nlen cs' r hn hr
      split at he
      · rename_i hc
        have hid : id ∈ rd := by
          split at he
          · cases he; simp
          · split at he
            · cases he; simp
            · cases he
        have := h id hid
        simp only [node_congr this, this, hn, hr, if_pos hc]
        exact he
      · cases he
    · cases he
  · cases he

theorem dstOf_congr {sz : Nat} {x : A} {cs : List A} {n : Nat} {us : List (Id × Option Root)} {rd : List Id} (he : dstOf hp sz x = some (cs, n, us, rd)) (h : ∀ id ∈ rd, hp' id = hp id) : dstOf hp' sz x = some (cs, n, us, rd) := by
  unfold dstOf at he ⊢
  split at he
  · exact he
  · rename_i id path ver off sz' len
    split at he
    · rename_i nsz nlen cs' r hn hr
      split at he
      · rename_i hc
        cases he
        have := h id (by simp)
        simp only [node_congr this, this, hn, hr, if_pos hc]
      · cases he
    · cases he
  · cases he

theorem snap1_congr {x c : A} {rd : List Id} (he : snap1 hp x = some (c, rd)) (h : ∀ id ∈ rd, hp' id = hp id) : snap1 hp' x = some (c, rd) := by
  unfold snap1 at he ⊢
  split at he
  · exact he
  · exact he
  · exact he
  · rename_i id path ver off sz len
    split at he
    · rename_i nsz nlen cs' hn
      split at he
      · rename_i hc
        cases he
        have := h id (by simp)
        simp only [node_congr this, hn, if_pos hc]
      · cases he
    · cases he
  · cases he

theorem snapL_congr : ∀ {vs cs : List A} {rd : List Id}, snapL hp vs = some (cs, rd) → (∀ id ∈ rd, hp' id = hp id) → snapL hp' vs = some (cs, rd)
  | [], _, _, he, _ => he
  | v :: vs, cs, rd, he, h => by
    unfold snapL at he ⊢
    split at he
    · rename_i c rd1 cs1 rds1 h1 h2
      cases he
      rw [snap1_congr h1 fun id hid => h id (by simp [hid]), snapL_congr h2 fun id hid => h id (by simp [hid])]
    · cases he

theorem snap_congr {x c : A} {rd : List Id} (he : snap hp x = some (c, rd)) (h : ∀ id ∈ rd, hp' id = hp id) : snap hp' x = some (c, rd) := by
  unfold snap at he ⊢
  split at he
  · simp only [Option.map_eq_some_iff] at he ⊢
    obtain ⟨⟨cs, rd'⟩, h1, h2⟩ := he
    cases h2
    exact ⟨_, snapL_congr h1 h, rfl⟩
  · exact snap1_congr he h

theorem lnCell_congr {v c : A} {es : List (Id × List Nat)} (he : lnCell hp v = some (c, es)) (h : ∀ id ∈ es.map (·.1), hp' id = hp id) : lnCell hp' v = some (c, es) := by
  unfold lnCell at he ⊢
  split at he
  · exact he
  · exact he
  · rename_i id path ver off sz len
    split at he
    · rename_i nsz nlen cs hn
      split at he
      · rename_i hc
        cases he
        have := h id (by simp)
        simp only [node_congr this, hn, if_pos hc]
      · cases he
    · cases he
  · cases he

theorem lnCells_congr : ∀ {vs cs : List A} {es : List (Id × List Nat)}, lnCells hp vs = some (cs, es) → (∀ id ∈ es.map (·.1), hp' id = hp id) → lnCells hp' vs = some (cs, es)
  | [], _, _, he, _ => he
  | v :: vs, cs, es, he, h => by
    unfold lnCells at he ⊢
    split at he
    · rename_i c e cs' es' h1 h2
      cases he
      rw [lnCell_congr h1 fun id hid => h id (by simp only [List.map_append, List.mem_append]; exact .inl hid), lnCells_congr h2 fun id hid => h id (by simp only [List.map_append, List.mem_append]; exact .inr hid)]
    · cases he

theorem lnVal_congr {v c : A} {es : List (Id × List Nat)} (he : lnVal hp v = some (c, es)) (h : ∀ id ∈ es.map (·.1), hp' id = hp id) : lnVal hp' v = some (c, es) := by
  unfold lnVal at he ⊢
  split at he
  · simp only [Option.map_eq_some_iff] at he ⊢
    obtain ⟨⟨cs, es'⟩, h1, h2⟩ := he
    cases h2
    exact ⟨_, lnCells_congr h1 h, rfl⟩
  · exact lnCell_congr he h

theorem contsOf_congr : ∀ {ks : List Kind} {vs cs xs : List A} {rds : List Id} {ios : List (Id × List Nat)}, contsOf hp ks vs cs = some (xs, rds, ios) → (∀ id ∈ rds ++ ios.map (·.1), hp' id = hp id) → contsOf hp' ks vs cs = some (xs, rds, ios)
  | [], [], [], _, _, _, he, _ => he
  | .ro :: ks, v :: vs, cs, xs, rds, ios, he, h => by
    unfold contsOf at he ⊢
    split at he
    · rename_i c rd xs1 rds1 ios1 h1 h2
      cases he
      rw [snap_congr h1 fun id hid => h id (by simp [hid]), contsOf_congr h2 fun id hid => h id (by simp only [List.append_assoc, List.mem_append] at hid ⊢; exact .inr hid)]
    · cases he
  | .mv :: ks, v :: vs, c :: cs, xs, rds, ios, he, h => by
    simp only [contsOf, Option.map_eq_some_iff] at he ⊢
    obtain ⟨⟨xs1, rds1, ios1⟩, h1, h2⟩ := he
    cases h2
    exact ⟨_, contsOf_congr h1 h, rfl⟩
  | .mv :: ks, v :: vs, [], xs, rds, ios, he, h => by simp [contsOf] at he
  | .io :: ks, v :: vs, cs, xs, rds, ios, he, h => by
    simp only [contsOf] at he ⊢
    split at he
    · rename_i id ver
      split at he
      · rename_i r hr
        split at he
        · rename_i hc
          simp only [Option.map_eq_some_iff] at he
          obtain ⟨⟨xs1, rds1, ios1⟩, h1, h2⟩ := he
          cases h2
          have := h id (by simp)
          simp only [this, hr, if_pos hc]
          rw [contsOf_congr h1 fun id' hid => h id' (by simp only [List.map_cons, List.mem_append, List.mem_cons] at hid ⊢; rcases hid with hid | hid; exact .inl hid; exact .inr (.inr hid))]
          rfl
        · cases he
      · cases he
    · cases he
  | .ln n :: ks, v :: vs, cs, xs, rds, ios, he, h => by
    simp only [contsOf] at he ⊢
    split at he
    · rename_i c es hv
      split at he
      · rename_i hn
        simp only [Option.map_eq_some_iff] at he
        obtain ⟨⟨xs1, rds1, ios1⟩, h1, h2⟩ := he
        cases h2
        rw [lnVal_congr hv fun id hid => h id (by simp only [List.map_append, List.mem_append]; exact .inr (.inl hid))]
        simp only [if_pos hn]
        rw [contsOf_congr h1 fun id' hid => h id' (by simp only [List.map_append, List.mem_append] at hid ⊢; rcases hid with hid | hid; exact .inl hid; exact .inr (.inr hid))]
        rfl
      · cases he
    · cases he
  | [], _ :: _, _, _, _, _, he, _ => by simp [contsOf] at he
  | [], [], _ :: _, _, _, _, he, _ => by simp [contsOf] at he
  | .ro :: _, [], _, _, _, _, he, _ => by simp [contsOf] at he
  | .mv :: _, [], _, _, _, _, he, _ => by simp [contsOf] at he
  | .io :: _, [], _, _, _, _, he, _ => by simp [contsOf] at he
  | .ln _ :: _, [], _, _, _, _, he, _ => by simp [contsOf] at he

theorem outsOf_congr : ∀ {ios : List (Id × List Nat)} {outs : List (List A)} {us : List (Id × Option Root)}, outsOf hp ios outs = some us → (∀ id ∈ ios.map (·.1), hp' id = hp id) → outsOf hp' ios outs = some us
  | [], [], _, he, _ => he
  | e :: es, cs :: outs, us, he, h => by
    unfold outsOf at he ⊢
    split at he
    · rename_i r us1 h1 h2
      rw [h e.1 (by simp), h1, outsOf_congr h2 fun id' hid => h id' (by simp only [List.map_cons, List.mem_cons]; exact .inr hid)]
      exact he
    · cases he
  | [], _ :: _, _, he, _ => by cases he
  | _ :: _, [], _, he, _ => by cases he

theorem callA_congr {f : Nat} {vs : List A} {e : Eff} (he : callA G m f vs hp = some e) (h : ∀ id ∈ e.rd, hp' id = hp id) : callA G m f vs hp' = some e := by
  unfold callA at he ⊢
  split at he
  · cases he
  · exact he
  · rename_i M hf
    split at he
    · cases he
    · rename_i cs ups rd1 h1
      split at he
      · cases he
      · rename_i xs rds ios h2
        split at he
        · rename_i h3
          split at he
          · cases he
          · rename_i r outs h4
            split at he
            · cases he
            · rename_i us' h5
              cases he
              simp only at h
              rw [closeL_congr h1 fun id hid => h id (by simp [hid])]
              simp only
              rw [contsOf_congr h2 fun id hid => applyH_congr (h id (by simp only [List.mem_append] at hid ⊢; rcases hid with hid | hid; exact .inl (.inr hid); exact .inr hid)) ups]
              simp only [if_pos h3, h4]
              rw [outsOf_congr h5 fun id hid => applyH_congr (h id (by simp [hid])) ups]
        · cases he

end
end Go.TM
