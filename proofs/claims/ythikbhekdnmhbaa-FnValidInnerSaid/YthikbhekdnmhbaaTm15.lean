/- The tree machine, 15: a call. -/
import Derived.Test.YthikbhekdnmhbaaTm14
namespace Go.TM
set_option linter.unusedVariables false
set_option linter.unusedSimpArgs false

section
variable {P : Program} {w0 w w' : World} {L0 L L' : Lab} {U V : Nat → Prop} {hp : Hp} {m : Nat}

theorem plantL_cons (k : Nat) (v : A) (vs : List A) : (plantL m k (v :: vs)).1 = rootRef (m, k) v :: (plantL m (k + 1) vs).1 ∧
    (plantL m k (v :: vs)).2 = (match rootOf v with | some r => [((m, k), some r)] | none => []) ++ (plantL m (k + 1) vs).2 := by
  exact ⟨rfl, rfl⟩

theorem plantL_rep [Use] (hV : V m) (hp' : Hp) : ∀ (cs : List A) (k : Nat) (us : List Value), Owns w L m k cs us → RepL V w L hp' (plantL m k cs).1 us
  | [], k, [], _ => by simp [plantL, RepL]
  | c :: cs, k, u :: us, h => by
    simp only [Owns] at h
    rw [(plantL_cons k c cs).1]
    simp only [RepL]
    exact ⟨own_rootRef hV h.1.2, plantL_rep hV hp' cs (k + 1) us h.2⟩
  | [], _, _ :: _, h => by simp [Owns] at h
  | _ :: _, _, [], h => by simp [Owns] at h

theorem plantL_h [Use] (hV : V m) : ∀ (cs : List A) (k : Nat) (us : List Value) (hp : Hp), HRel w0 L0 V hp w L → Owns w L m k cs us → HRel w0 L0 V (applyH hp (plantL m k cs).2) w L
  | [], k, [], hp, h, _ => by simpa [plantL, applyH_nil] using h
  | c :: cs, k, u :: us, hp, h, ho => by
    simp only [Owns] at ho
    rw [(plantL_cons k c cs).2, applyH_append]
    refine plantL_h hV cs (k + 1) us _ ?_ ho.2
    cases hr : rootOf c with
    | none => simpa [applyH_nil] using h
    | some r =>
      simp only [applyH_one]
      exact addRoot h (own_rootOf hr ho.1.2) hV
  | [], _, _ :: _, _, _, h => by simp [Owns] at h
  | _ :: _, _, [], _, _, h => by simp [Owns] at h

theorem plantL_ids : ∀ (cs : List A) (k : Nat), ∀ i ∈ (plantL m k cs).2.map (·.1), i.1 = m
  | [], k => by simp [plantL]
  | c :: cs, k => by
    intro i hi
    rw [(plantL_cons k c cs).2] at hi
    simp only [List.map_append, List.mem_append] at hi
    rcases hi with hi | hi
    · cases hr : rootOf c <;> simp [hr] at hi
      rw [hi]
    · exact plantL_ids cs (k + 1) i hi

theorem plant1_ids (k : Nat) (r : A) : ∀ i ∈ (plant1 m k r).2.map (·.1), i.1 = m := by
  intro i hi
  unfold plant1 at hi
  split at hi
  · exact plantL_ids _ _ i hi
  · simp at hi; rw [hi]
  · exact plantL_ids _ _ i hi

theorem plantT_ids : ∀ (cs : List A) (k : Nat), ∀ i ∈ (plantT m k cs).2.map (·.1), i.1 = m
  | [], k => by simp [plantT]
  | c :: cs, k => by
    intro i hi
    simp only [plantT, List.map_append, List.mem_append] at hi
    rcases hi with hi | hi
    · exact plant1_ids k c i hi
    · exact plantT_ids cs _ i hi

theorem plant_ids (r : A) : ∀ i ∈ (plant m r).2.map (·.1), i.1 = m := by
  intro i hi
  unfold plant at hi
  split at hi
  · exact plantT_ids _ _ i hi
  · exact plant1_ids _ _ i hi

theorem plant1_cell [Use] (hV : V m) (k : Nat) (r : A) (u : Value) (hp : Hp) (h : HRel w0 L0 V hp w L) (hr : u.oneCell' = true ∧ Own w L r (m, k) [] u)
    (he : plant1 m k r = (((plantL m k [r]).1)[0]?.getD .und, (plantL m k [r]).2)) : HRel w0 L0 V (applyH hp (plant1 m k r).2) w L ∧ ∀ hp', Rep V w L hp' (plant1 m k r).1 u := by
  have ho : Owns w L m k [r] [u] := by simp only [Owns]; exact ⟨hr, trivial⟩
  rw [he]
  refine ⟨plantL_h hV _ k _ hp h ho, fun hp' => ?_⟩
  have := plantL_rep hV hp' _ k _ ho
  simpa [RepL, plantL] using this

theorem plant1_ok [Use] (hV : V m) (k : Nat) (r : A) (u : Value) (hp : Hp) (h : HRel w0 L0 V hp w L) (hr : Res1 w L m k r u) :
    HRel w0 L0 V (applyH hp (plant1 m k r).2) w L ∧ ∀ hp', Rep V w L hp' (plant1 m k r).1 u := by
  cases r with
  | agg xs =>
    simp only [Res1] at hr
    obtain ⟨us, rfl, hr⟩ := hr
    refine ⟨plantL_h hV xs k _ hp h hr, fun hp' => ?_⟩
    simp only [plant1, Rep]
    exact ⟨us, rfl, plantL_rep hV hp' xs k _ hr⟩
  | ep cs =>
    simp only [Res1] at hr
    obtain ⟨b, cap, rfl, h1, h2⟩ := hr
    refine ⟨?_, fun hp' => ?_⟩
    · simp only [plant1, applyH_one]
      exact addRoot h (r := newRoot cs.length 1 cs) h2 hV
    · simp only [plant1, Rep]
      exact ⟨hV, fun r _ c p hp => (by cases hp), _, rfl, fun _ => ⟨b, rfl, h1⟩⟩
  | tup xs => simp [Res1] at hr
  | i k' n => exact plant1_cell hV k _ u hp h (by simpa only [Res1] using hr) rfl
  | b v => exact plant1_cell hV k _ u hp h (by simpa only [Res1] using hr) rfl
  | s o sz len cs => exact plant1_cell hV k _ u hp h (by simpa only [Res1] using hr) rfl
  | ref id path ver off sz len => exact plant1_cell hV k _ u hp h (by simpa only [Res1] using hr) rfl
  | ptr id path ver off => exact plant1_cell hV k _ u hp h (by simpa only [Res1] using hr) rfl
  | und => exact plant1_cell hV k _ u hp h (by simpa only [Res1] using hr) rfl

theorem plantT_ok [Use] (hV : V m) : ∀ (cs : List A) (k : Nat) (us : List Value) (hp : Hp), HRel w0 L0 V hp w L → ResT w L m k cs us →
    HRel w0 L0 V (applyH hp (plantT m k cs).2) w L ∧ ∀ hp', RepL V w L hp' (plantT m k cs).1 us
  | [], k, [], hp, h, _ => ⟨by simpa [plantT, applyH_nil] using h, fun hp' => by simp [plantT, RepL]⟩
  | c :: cs, k, u :: us, hp, h, hr => by
    simp only [ResT] at hr
    obtain ⟨e1, e2⟩ := plant1_ok hV k c u hp h hr.1
    obtain ⟨e3, e4⟩ := plantT_ok hV cs _ us _ e1 hr.2
    refine ⟨by simp only [plantT]; rw [applyH_append]; exact e3, fun hp' => ?_⟩
    simp only [plantT, RepL]
    exact ⟨e2 hp', e4 hp'⟩
  | [], _, _ :: _, _, _, h => by simp [ResT] at h
  | _ :: _, _, [], _, _, h => by simp [ResT] at h

theorem plant_ok [Use] (hV : V m) (r : A) (u : Value) (h : HRel w0 L0 V hp w L) (hr : ResOwn w L m r u) : HRel w0 L0 V (applyH hp (plant m r).2) w L ∧ ∀ hp', Rep V w L hp' (plant m r).1 u := by
  unfold ResOwn at hr
  split at hr
  · obtain ⟨us, rfl, hr⟩ := hr
    obtain ⟨e1, e2⟩ := plantT_ok hV _ 0 _ hp h hr
    refine ⟨e1, fun hp' => ?_⟩
    simp only [plant, Rep]
    exact ⟨us, rfl, e2 hp'⟩
  · rename_i hne
    have : plant m r = plant1 m 0 r := by
      unfold plant
      split
      · exact (hne _ rfl).elim
      · rfl
    rw [this]
    exact plant1_ok hV 0 r u hp h hr

theorem keeps_ups [Use] (ups : List (Id × Option Root)) (h : ∀ i ∈ ups.map (·.1), ¬ U i.1) (hV : ∀ k, U k → V k) : Keeps U w L hp V w L (applyH hp ups) := by
  have hh : ∀ id : Id, U id.1 → applyH hp ups id = hp id := fun id hu => applyH_other ups hp fun hm => h id hm hu
  refine ⟨hV, fun b hb => ⟨hb, rfl⟩, fun id r' hr hu => ?_, fun id p v hu hv hn => ?_⟩
  · rw [hh id hu] at hr
    exact ⟨r', hr, fun _ => Nat.le_refl _⟩
  · have : node (applyH hp ups) id p v = node hp id p v := by unfold node; rw [hh id hu]
    rw [this] at hn
    exact ⟨hn, fun b hb => ⟨hb, fun cur e hc => ⟨cur, hc, rfl⟩⟩⟩

theorem mvs_rep [Use] : ∀ (ks : List Kind) (vs : List A) (us : List Value), RepL U w L hp vs us → RepL U w L hp (mvsOf ks vs) (mvsOf ks us)
  | [], [], [], _ => by simp [mvsOf, RepL]
  | [], _ :: _, _ :: _, _ => by simp [mvsOf, RepL]
  | .mv :: ks, v :: vs, u :: us, h => by simp only [RepL, mvsOf] at h ⊢; exact ⟨h.1, mvs_rep ks vs us h.2⟩
  | .ro :: ks, v :: vs, u :: us, h => by simp only [RepL, mvsOf] at h ⊢; exact mvs_rep ks vs us h.2
  | .io :: ks, v :: vs, u :: us, h => by simp only [RepL, mvsOf] at h ⊢; exact mvs_rep ks vs us h.2
  | .ln _ :: ks, v :: vs, u :: us, h => by simp only [RepL, mvsOf] at h ⊢; exact mvs_rep ks vs us h.2
  | _ :: _, [], [], _ => by simp [mvsOf, RepL]
  | _, [], _ :: _, h => by simp [RepL] at h
  | _, _ :: _, [], h => by simp [RepL] at h

/-- Where what is lent lies, and its shape. -/
def LentAt (hp : Hp) (shs : List (Nat × Nat)) (ios : List (Id × List Nat)) : Prop :=
  shs.length = ios.length ∧ ∀ (t : Nat) id path, ios[t]? = some (id, path) → ∃ r x, hp id = some r ∧ getP r.sz r.len r.cs path = some x ∧ shs[t]? = some (x.1, x.2.1)

theorem LentAt.append {s1 s2 : List (Nat × Nat)} {i1 i2 : List (Id × List Nat)} (h1 : LentAt hp s1 i1) (h2 : LentAt hp s2 i2) : LentAt hp (s1 ++ s2) (i1 ++ i2) := by
  refine ⟨by simp [h1.1, h2.1], fun t id path ht => ?_⟩
  by_cases hlt : t < i1.length
  · rw [List.getElem?_append_left hlt] at ht
    rw [List.getElem?_append_left (by rw [h1.1]; exact hlt)]
    exact h1.2 t id path ht
  · rw [List.getElem?_append_right (by omega)] at ht
    rw [List.getElem?_append_right (by rw [h1.1]; omega), h1.1]
    exact h2.2 _ id path ht

theorem lentAt_cell {v c : A} {es : List (Id × List Nat)} (h : lnCell hp v = some (c, es)) : LentAt hp (lnShs [c]) es := by
  unfold lnCell at h
  split at h
  · cases h; exact ⟨rfl, by simp⟩
  · cases h; exact ⟨rfl, by simp⟩
  · rename_i id path ver off sz len
    split at h
    · rename_i nsz nlen cs hn
      split at h
      · rename_i hc
        obtain ⟨rfl, rfl, rfl⟩ := hc
        cases h
        refine ⟨rfl, fun t id' path' ht => ?_⟩
        cases t with
        | zero =>
          simp at ht
          obtain ⟨rfl, rfl⟩ := ht
          unfold node at hn
          split at hn
          · rename_i r hr
            split at hn
            · exact ⟨r, _, hr, hn, rfl⟩
            · cases hn
          · cases hn
        | succ t => simp at ht
      · cases h
    · cases h
  · cases h

theorem lnShs_cons (c : A) (cs : List A) : lnShs (c :: cs) = lnShs [c] ++ lnShs cs := by
  cases c with
  | s o sz len xs => cases o <;> rfl
  | _ => rfl

theorem lentAt_cells : ∀ {vs cs : List A} {es : List (Id × List Nat)}, lnCells hp vs = some (cs, es) → LentAt hp (lnShs cs) es
  | [], _, _, h => by cases h; exact ⟨rfl, by simp⟩
  | v :: vs, cs, es, h => by
    unfold lnCells at h
    split at h
    · rename_i c e cs' es' h1 h2
      cases h
      rw [lnShs_cons]
      exact (lentAt_cell h1).append (lentAt_cells h2)
    · cases h

theorem lentAt_val {v c : A} {es : List (Id × List Nat)} (h : lnVal hp v = some (c, es)) : LentAt hp (lnShs (cellsA c)) es := by
  unfold lnVal at h
  split at h
  · simp only [Option.map_eq_some_iff] at h
    obtain ⟨⟨cs, es'⟩, h1, h2⟩ := h
    cases h2
    exact lentAt_cells h1
  · have := lentAt_cell h
    unfold lnCell at h
    split at h
    · cases h; exact this
    · cases h; exact this
    · split at h
      · split at h
        · cases h; exact this
        · cases h
      · cases h
    · cases h

theorem lentAt_conts [Use] (h : HRel w0 L0 U hp w L) : ∀ {ks : List Kind} {vs cs xs : List A} {rds : List Id} {ios : List (Id × List Nat)}, contsOf hp ks vs cs = some (xs, rds, ios) → LentAt hp (shsOf ks xs) ios
  | [], [], [], _, _, _, hc => by cases hc; exact ⟨rfl, by simp⟩
  | .ro :: ks, v :: vs, cs, xs, rds, ios, hc => by
    unfold contsOf at hc
    split at hc
    · rename_i c rd xs1 rds1 ios1 h1 h2
      cases hc
      have := lentAt_conts h h2
      simpa only [shsOf] using this
    · cases hc
  | .mv :: ks, v :: vs, c :: cs, xs, rds, ios, hc => by
    simp only [contsOf, Option.map_eq_some_iff] at hc
    obtain ⟨⟨xs1, rds1, ios1⟩, h1, h2⟩ := hc
    cases h2
    have := lentAt_conts h h1
    simpa only [shsOf] using this
  | .mv :: ks, v :: vs, [], xs, rds, ios, hc => by simp [contsOf] at hc
  | .io :: ks, v :: vs, cs, xs, rds, ios, hc => by
    simp only [contsOf] at hc
    split at hc
    · rename_i id ver
      split at hc
      · rename_i r hr
        split at hc
        · rename_i hlen
          simp only [Option.map_eq_some_iff] at hc
          obtain ⟨⟨xs1, rds1, ios1⟩, h1, h2⟩ := hc
          cases h2
          have h3 : LentAt hp [(r.cs.length, 1)] [(id, [])] := by
            refine ⟨rfl, fun t id' path' ht => ?_⟩
            cases t with
            | zero =>
              simp at ht
              obtain ⟨rfl, rfl⟩ := ht
              refine ⟨r, _, hr, rfl, ?_⟩
              obtain ⟨u, hu⟩ := h.roots id r hr
              simp only [Own] at hu
              rcases hu with ⟨_, h0, _⟩ | ⟨_, _, _, _, _, _, _, _, _, _, h7, _⟩
              · omega
              · simp [h7, hlen]
            | succ t => simp at ht
          exact h3.append (lentAt_conts h h1)
        · cases hc
      · cases hc
    · cases hc
  | .ln n :: ks, v :: vs, cs, xs, rds, ios, hc => by
    simp only [contsOf] at hc
    split at hc
    · rename_i c es hv
      split at hc
      · simp only [Option.map_eq_some_iff] at hc
        obtain ⟨⟨xs1, rds1, ios1⟩, h1, h2⟩ := hc
        cases h2
        exact (lentAt_val hv).append (lentAt_conts h h1)
      · cases hc
    · cases hc
  | [], _ :: _, _, _, _, _, hc => by simp [contsOf] at hc
  | [], [], _ :: _, _, _, _, hc => by simp [contsOf] at hc
  | .ro :: _, [], _, _, _, _, hc => by simp [contsOf] at hc
  | .mv :: _, [], _, _, _, _, hc => by simp [contsOf] at hc
  | .io :: _, [], _, _, _, _, hc => by simp [contsOf] at hc
  | .ln _ :: _, [], _, _, _, _, hc => by simp [contsOf] at hc

/-- What a call leaves. -/
def CallOk [Use] (P : Program) (w0 : World) (L0 : Lab) (U : Nat → Prop) (hp : Hp) (w : World) (L : Lab) (f : Nat) (us : List Value) (m : Nat) (e : Eff) : Prop :=
  Calls P f us.toArray w fun en w' => ∃ v L', en = .returned v ∧ HRel w0 L0 (addU U m) (applyH hp e.ups) w' L' ∧ Keeps U w L hp (addU U m) w' L' (applyH hp e.ups) ∧ Rep (addU U m) w' L' (applyH hp e.ups) e.val v

theorem repL_len [Use] {U : Nat → Prop} {w : World} {L : Lab} {hp : Hp} : ∀ {xs : List A} {us : List Value}, RepL U w L hp xs us → xs.length = us.length
  | [], [], _ => rfl
  | x :: xs, u :: us, h => by simp only [RepL] at h; simp [repL_len h.2]
  | [], _ :: _, h => by simp [RepL] at h
  | _ :: _, [], h => by simp [RepL] at h

theorem contsOf_len {hp : Hp} : ∀ {ks : List Kind} {vs cs xs : List A} {rds : List Id} {ios : List (Id × List Nat)}, contsOf hp ks vs cs = some (xs, rds, ios) → xs.length = vs.length
  | [], [], [], _, _, _, hc => by cases hc; rfl
  | .ro :: ks, v :: vs, cs, xs, rds, ios, hc => by
    unfold contsOf at hc
    split at hc
    · rename_i c rd xs1 rds1 ios1 h1 h2
      cases hc
      simp [contsOf_len h2]
    · cases hc
  | .mv :: ks, v :: vs, c :: cs, xs, rds, ios, hc => by
    simp only [contsOf, Option.map_eq_some_iff] at hc
    obtain ⟨⟨xs1, rds1, ios1⟩, h1, h2⟩ := hc
    cases h2
    simp [contsOf_len h1]
  | .mv :: ks, v :: vs, [], xs, rds, ios, hc => by simp [contsOf] at hc
  | .io :: ks, v :: vs, cs, xs, rds, ios, hc => by
    simp only [contsOf] at hc
    split at hc
    · split at hc
      · split at hc
        · simp only [Option.map_eq_some_iff] at hc
          obtain ⟨⟨xs1, rds1, ios1⟩, h1, h2⟩ := hc
          cases h2
          simp [contsOf_len h1]
        · cases hc
      · cases hc
    · cases hc
  | .ln n :: ks, v :: vs, cs, xs, rds, ios, hc => by
    simp only [contsOf] at hc
    split at hc
    · split at hc
      · simp only [Option.map_eq_some_iff] at hc
        obtain ⟨⟨xs1, rds1, ios1⟩, h1, h2⟩ := hc
        cases h2
        simp [contsOf_len h1]
      · cases hc
    · cases hc
  | [], _ :: _, _, _, _, _, hc => by simp [contsOf] at hc
  | [], [], _ :: _, _, _, _, hc => by simp [contsOf] at hc
  | .ro :: _, [], _, _, _, _, hc => by simp [contsOf] at hc
  | .mv :: _, [], _, _, _, _, hc => by simp [contsOf] at hc
  | .io :: _, [], _, _, _, _, hc => by simp [contsOf] at hc
  | .ln _ :: _, [], _, _, _, _, hc => by simp [contsOf] at hc

theorem call_ok [B : Use] (h : HRel w0 L0 U hp w L) (hm : ¬ U m) {vs : List A} {us : List Value} (hv : RepL U w L hp vs us) {M : Model} {f : Nat} (hM : Contract P f M) {cs : List A} {ups : List (Id × Option Root)} {rd1 : List Id}
    (h1 : closeL hp (mvsOf M.kinds vs) = some (cs, ups, rd1)) {xs : List A} {rds : List Id} {ios : List (Id × List Nat)} (h2 : contsOf (applyH hp ups) M.kinds vs cs = some (xs, rds, ios)) (h3 : nodupB (idsOf ios) = true ∧ disjB (idsOf ios) rds = true ∧ (rds = [] ∨ M.clean = true))
    {r : A} {outs : List (List A)} (h4 : M.fn xs = some (r, outs)) {us' : List (Id × Option Root)} (h5 : outsOf (applyH hp ups) ios outs = some us') (rd : List Id) :
    CallOk P w0 L0 U hp w L f us m ⟨(plant m r).1, ups ++ us' ++ (plant m r).2, rd⟩ := by
  obtain ⟨hnd, hdj, hcl⟩ := h3
  have h' : HRel w0 L0 (addU U m) hp w L := h.mono fun k hk => addU_l hk
  have hups := closeL_used (U := U) _ _ _ _ _ h.usedR h1
  have hmu : ∀ k, (m, k) ∉ ups.map (·.1) := fun k hmem => hm (hups _ hmem)
  have hv' : RepL (addU U m) w L hp vs us := RepL.mono (keeps_ups (U := U) (V := addU U m) [] (by simp) fun k hk => addU_l hk) _ _ hv
  obtain ⟨L1, k1, k2, k3, k4, k5, k6⟩ := closeL_ok (m, 999) [] (.inr rfl) (mvsOf M.kinds vs) (mvsOf M.kinds us) 0 hp L cs ups rd1 h' (mvs_rep _ _ _ hv') h1 (hmu 999) fun b j q _ _ => fresh_lab h hm 999 b _
  have hfresh : ∀ k, applyH hp ups (m, k) = none := fun k => by rw [applyH_other _ _ (hmu k)]; exact fresh_root h hm k
  have hLm : ∀ b k p, L1 b = .at (m, k) p → k = 999 ∧ ∃ j q, p = j :: q := by
    intro b k p hb
    rcases k4.back b _ p hb with h6 | ⟨h6, j, q, h7, _, _⟩
    · exact (fresh_lab h hm k b p h6).elim
    · cases h6
      exact ⟨rfl, j, q, by simpa using h7⟩
  have hv1 : RepL (addU U m) w L1 (applyH hp ups) vs us := RepL.mono k3 _ _ hv'
  -- whether something is borrowed
  obtain ⟨bor, hbor⟩ : ∃ bor : Bool, bor = !rds.isEmpty := ⟨_, rfl⟩
  have hrd : ∀ id ∈ rds, id ∉ idsOf ios ∧ bor = true := by
    intro id hid
    refine ⟨fun hio => ?_, by rw [hbor]; cases rds <;> simp_all⟩
    simp only [disjB, List.all_eq_true] at hdj
    have := hdj id hio id hid
    simp at this
  obtain ⟨s1, s2, s3⟩ := start_go B k1 (hfresh 999) ios bor M.kinds vs us cs xs rds ios 0 0 0 h2 hv1 k2 (fun t e ht => by rw [Nat.zero_add]; exact ⟨posOf_get hnd (by rw [List.getElem?_map, ht]; rfl), ht⟩) hrd
  have hst := start_h B k1 ios bor (tid := (m, 999)) s3
  have hcall := hM.calls (useC B L1 (labC L1 (m, 999) ios) bor) w (labC L1 (m, 999) ios) us.toArray xs r outs h4 hst (fun j => by
    have := s1 (initHp 0 0 M.kinds xs) j
    simpa [Array.getD_eq_getD_getElem?] using this) (by simp [contsOf_len h2, repL_len hv])
  refine hcall.mono fun en w' hpost => ?_
  simp only [Post] at hpost
  obtain ⟨v, Lc', rfl, p1, p2, p3⟩ := hpost
  have hclean : bor = true → cleanA r = true ∧ outs.all cleanL = true := by
    intro hb
    refine hM.clean ?_ xs r outs h4
    rcases hcl with hcl | hcl
    · rw [hbor, hcl] at hb; simp at hb
    · exact hcl
  obtain ⟨q1, q2, q3, q4⟩ := end_ok B k1 hm hfresh hLm h5 hnd (lentAt_conts k1 h2).1 (lentAt_conts k1 h2).2 p1 p2 p3 hclean
  obtain ⟨f1, f2⟩ := plant_ok (.inr rfl) r v q1 q3
  refine ⟨v, _, rfl, ?_, ?_, f2 _⟩
  · simp only [applyH_append]
    exact f1
  · simp only [applyH_append]
    exact ((k3.restrict fun k hk => addU_l hk).trans q2).trans (keeps_ups _ (fun i hi hu => hm (by rw [← plant_ids r i hi]; exact hu)) fun k hk => addU_l hk)

end
end Go.TM
