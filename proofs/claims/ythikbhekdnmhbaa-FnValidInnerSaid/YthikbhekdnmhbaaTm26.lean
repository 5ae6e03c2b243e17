/- The tree machine, 26: how a body ends. -/
import Derived.Test.YthikbhekdnmhbaaTm25
namespace Go.TM
set_option linter.unusedVariables false
set_option linter.unusedSimpArgs false

/-- The labels at a body's end: results under the instance 0, what was lent under 2. -/
def labE (L : Lab) (m : Nat) : Lab := fun b => match L b with
  | .free => .free
  | .prot => .prot
  | .at i p => if i = (m, 999) then (match p with
      | k :: q => .at (0, k) q
      | [] => .free) else if i.1 = 2 then .at i p else .free

theorem labE_prot {L : Lab} {m b : Nat} (h : L b = .prot) : labE L m b = .prot := by simp [labE, h]
theorem labE_free {L : Lab} {m b : Nat} (h : L b = .free) : labE L m b = .free := by simp [labE, h]
theorem labE_res {L : Lab} {m b k : Nat} {q : List Nat} (h : L b = .at (m, 999) (k :: q)) : labE L m b = .at (0, k) q := by simp [labE, h]
theorem labE_io {L : Lab} {m b t : Nat} {q : List Nat} (hm : 3 ≤ m) (h : L b = .at (2, t) q) : labE L m b = .at (2, t) q := by
  simp only [labE, h]
  rw [if_neg (by simp; omega)]
  simp

theorem labE_at {L : Lab} {m b : Nat} {i : Id} {p : List Nat} (h : labE L m b = .at i p) : (∃ k, i = (0, k) ∧ L b = .at (m, 999) (k :: p)) ∨ (i.1 = 2 ∧ L b = .at i p) := by
  unfold labE at h
  split at h
  · cases h
  · cases h
  · rename_i i' p' hb
    split at h
    · rename_i hi
      subst hi
      split at h
      · cases h; exact .inl ⟨_, rfl, hb⟩
      · cases h
    · split at h
      · cases h; exact .inr ⟨by assumption, hb⟩
      · cases h

section
variable {P : Program} {T : Nat → Option TI} {w0 w : World} {L0 L : Lab} {U : Nat → Prop} {hp : Hp} {m : Nat}

theorem own_E [Use] {c : A} {k : Nat} {u : Value} (h : Own w L c (m, 999) ([] ++ [k]) u) : Own w (labE L m) c (0, k) [] u :=
  Own.move (L' := labE L m) (fun b hb => ⟨labE_prot hb, rfl⟩) c _ [] u (fun b q hq => ⟨labE_res (by simpa using hq), rfl⟩) h

theorem iosOf_get : ∀ {shs : List (Nat × Nat)} {t0 : Nat} {outs : List (List A)}, iosOf hp t0 shs = some outs → outs.length = shs.length ∧ ∀ (t : Nat) sh cs, shs[t]? = some sh → outs[t]? = some cs → ∃ r, hp (2, t0 + t) = some r ∧ r.sz = sh.1 ∧ r.len = sh.2 ∧ r.cs = cs
  | [], t0, outs, h => by cases h; simp
  | sh :: shs, t0, outs, h => by
    unfold iosOf at h
    split at h
    · rename_i r cs h1 h2
      split at h
      · rename_i hc
        cases h
        obtain ⟨e1, e2⟩ := iosOf_get h2
        refine ⟨by simp [e1], fun t sh' cs' g1 g2 => ?_⟩
        cases t with
        | zero =>
          simp at g1 g2
          subst g1; subst g2
          exact ⟨r, h1, hc.1, hc.2, rfl⟩
        | succ t =>
          obtain ⟨r', f1, f2⟩ := e2 t sh' cs' (by simpa using g1) (by simpa using g2)
          exact ⟨r', by rw [show t0 + (t + 1) = t0 + 1 + t from by omega]; exact f1, f2⟩
      · cases h
    · cases h

theorem end_h [Use] (h : HRel w0 L0 U hp w L) (hm : 3 ≤ m) {shs : List (Nat × Nat)} {outs : List (List A)} (ho : iosOf hp 0 shs = some outs) : HRel w0 L0 (fun _ => True) (ioHp shs outs) w (labE L m) := by
  obtain ⟨e1, e2⟩ := iosOf_get ho
  refine ⟨fun id r hr => ?_, fun b b' i p hb hb' => ?_, fun b hb => labE_free (h.free b hb), fun _ _ _ _ => trivial, fun _ _ _ => trivial, fun b hb => ⟨labE_prot (h.prot b hb).1, (h.prot b hb).2⟩, h.size, h.os, h.tape, h.output, h.use, h.frz⟩
  · unfold ioHp at hr
    split at hr
    · rename_i h2
      split at hr
      · rename_i sh cs g1 g2
        cases hr
        obtain ⟨r1, f1, f2, f3, f4⟩ := e2 id.2 sh cs g1 g2
        rw [Nat.zero_add] at f1
        have hid : id = (2, id.2) := Prod.ext h2 rfl
        obtain ⟨u, hu⟩ := h.roots _ r1 f1
        refine ⟨u, ?_⟩
        rw [f2, f3, f4] at hu
        rw [hid]
        exact Own.move (L' := labE L m) (fun b hb => ⟨labE_prot hb, rfl⟩) _ [] [] u (fun b q hq => ⟨labE_io hm hq, rfl⟩) hu
      · cases hr
    · cases hr
  · rcases labE_at hb with ⟨k, rfl, g1⟩ | ⟨g0, g1⟩
    · rcases labE_at hb' with ⟨k', f0, f1⟩ | ⟨f0, f1⟩
      · cases f0
        exact h.inj b b' _ _ g1 f1
      · cases f0
    · rcases labE_at hb' with ⟨k', rfl, f1⟩ | ⟨f0, f1⟩
      · cases g0
      · exact h.inj b b' _ _ g1 f1

theorem closeL_part : ∀ {xs cs : List A} {hp : Hp} {us : List (Id × Option Root)} {rd : List Id}, closeL hp xs = some (cs, us, rd) → ∀ x ∈ xs, okPart x = true ∧ cellsA x = [x]
  | [], _, _, _, _, _ => by simp
  | x :: xs, cs, hp, us, rd, h => by
    unfold closeL at h
    split at h
    · cases h
    · rename_i c u rd1 h1
      split at h
      · cases h
      · rename_i cs1 us1 rds1 h2
        intro y hy
        rcases List.mem_cons.1 hy with rfl | hy
        · cases y <;> first | exact ⟨rfl, rfl⟩ | simp [close1] at h1
        · exact closeL_part h2 y hy

theorem flat_part : ∀ {vs cs : List A} {hp : Hp} {us : List (Id × Option Root)} {rd : List Id}, closeL hp (flatA vs) = some (cs, us, rd) → ∀ v ∈ vs, okPart v = true := by
  intro vs cs hp us rd h v hv
  have hc := closeL_part h
  cases v with
  | und => exact (hc .und (by simp only [flatA, List.mem_flatten, List.mem_map]; exact ⟨[.und], ⟨.und, hv, rfl⟩, by simp⟩)).1
  | tup xs => exact (hc (.tup xs) (by simp only [flatA, List.mem_flatten, List.mem_map]; exact ⟨[.tup xs], ⟨.tup xs, hv, rfl⟩, by simp⟩)).1
  | _ => rfl

abbrev flatV (us : List Value) : List Value := (us.map fun u => u.cells.toList).flatten

theorem repL_append [Use] : ∀ {xs ys : List A} {us vs : List Value}, RepL U w L hp xs us → RepL U w L hp ys vs → RepL U w L hp (xs ++ ys) (us ++ vs)
  | [], ys, [], vs, _, h => h
  | x :: xs, ys, u :: us, vs, h1, h2 => by simp only [RepL, List.cons_append] at h1 ⊢; exact ⟨h1.1, repL_append h1.2 h2⟩
  | [], _, _ :: _, _, h, _ => by simp [RepL] at h
  | _ :: _, _, [], _, h, _ => by simp [RepL] at h

theorem flat_rep [Use] : ∀ {vs : List A} {us : List Value}, RepL U w L hp vs us → (∀ v ∈ vs, okPart v = true) → RepL U w L hp (flatA vs) (flatV us)
  | [], [], _, _ => by simp [flatA, flatV, RepL]
  | v :: vs, u :: us, h, hk => by
    simp only [RepL] at h
    exact repL_append (rep_cells h.1 (hk v (by simp))) (flat_rep h.2 fun x hx => hk x (by simp [hx]))
  | [], _ :: _, h, _ => by simp [RepL] at h
  | _ :: _, [], h, _ => by simp [RepL] at h

theorem ownL_len [Use] {id : Id} {p : List Nat} : ∀ {cs : List A} {k : Nat} {us : List Value}, OwnL w L cs id p k us → cs.length ≤ us.length
  | [], _, _, _ => Nat.zero_le _
  | c :: cs, k, u :: us, h => by simp only [OwnL] at h; have := ownL_len h.2; simp; omega
  | _ :: _, _, [], h => by simp [OwnL] at h

theorem owns_of [Use] : ∀ {cs : List A} {k : Nat} {us : List Value}, cs.length = us.length → OwnL w L cs (m, 999) [] k us → Owns w (labE L m) 0 k cs us
  | [], k, [], _, _ => by simp [Owns]
  | c :: cs, k, u :: us, hl, h => by
    simp only [OwnL] at h
    simp only [Owns]
    exact ⟨⟨h.1.1, own_E h.1.2⟩, owns_of (by simpa using hl) h.2⟩
  | [], _, _ :: _, hl, _ => by simp at hl
  | _ :: _, _, [], hl, _ => by simp at hl

theorem ownL_split [Use] {id : Id} {p : List Nat} : ∀ (n : Nat) (cs : List A) (k : Nat) (us vs : List Value), us.length = n → n ≤ cs.length → OwnL w L cs id p k (us ++ vs) → OwnL w L (cs.take n) id p k us ∧ OwnL w L (cs.drop n) id p (k + n) vs
  | 0, cs, k, us, vs, hu, _, h => by
    cases us with
    | nil => simpa [OwnL] using h
    | cons u us => simp at hu
  | n + 1, c :: cs, k, u :: us, vs, hu, hn, h => by
    simp only [List.cons_append, OwnL] at h
    obtain ⟨h1, h2⟩ := ownL_split n cs (k + 1) us vs (by simpa using hu) (by simpa using hn) h.2
    simp only [List.take_succ_cons, List.drop_succ_cons, OwnL]
    exact ⟨⟨h.1, h1⟩, by rwa [show k + (n + 1) = k + 1 + n from by omega]⟩
  | n + 1, [], _, _, _, _, hn, _ => by simp at hn
  | n + 1, _ :: _, _, [], _, hu, _, _ => by simp at hu

theorem rep_agg_len [Use] {xs : List A} {us : List Value} (h : RepL U w L hp xs us) : us.length = xs.length := (repL_get h).1

theorem res1_cell [Use] {c : A} {k : Nat} {u : Value} (h1 : u.oneCell' = true) (h : Own w L c (m, 999) ([] ++ [k]) u) : Res1 w (labE L m) 0 k c u := by
  have := own_E h
  cases c <;> first | exact ⟨h1, this⟩ | (simp [Own] at h)

theorem own_cells1 [Use] {c : A} {id : Id} {p : List Nat} {u : Value} (h : Own w L c id p u) : cellsA c = [c] := by
  cases c <;> first | rfl | (simp [Own] at h)

/-- The results, closed. -/
theorem resT_of [Use] : ∀ {vs : List A} {us : List Value} {cs : List A} {k : Nat}, RepL U w L hp vs us → (∀ v ∈ vs, okPart v = true) → (∀ x ∈ flatA vs, cellsA x = [x]) → cs.length = (flatA vs).length → OwnL w L cs (m, 999) [] k (flatV us) →
    ResT w (labE L m) 0 k (regroup vs cs) us
  | [], [], cs, k, _, _, _, hl, _ => by simp [regroup, ResT]
  | v :: vs, u :: us, cs, k, h, hk, hx, hl, ho => by
    simp only [RepL] at h
    by_cases hv : ∃ xs, v = .agg xs
    · obtain ⟨xs, rfl⟩ := hv
      have hu := h.1
      simp only [Rep] at hu
      obtain ⟨ua, rfl, hu⟩ := hu
      have hlen := rep_agg_len hu
      have hcl : (flatA (.agg xs :: vs)).length = xs.length + (flatA vs).length := by simp [flatA, cellsA]
      have hflat : flatV (.agg ua :: us) = ua.toList ++ flatV us := rfl
      rw [hflat] at ho
      obtain ⟨o1, o2⟩ := ownL_split xs.length cs k ua.toList (flatV us) hlen (by omega) ho
      simp only [regroup, ResT, Res1, cellsA]
      refine ⟨⟨ua, rfl, owns_of (by rw [List.length_take]; omega) o1⟩, ?_⟩
      have e : (cs.take xs.length).length = xs.length := by rw [List.length_take]; omega
      rw [e]
      exact resT_of h.2 (fun y hy => hk y (by simp [hy])) (fun y hy => hx y (by simp only [flatA, List.map_cons, List.flatten_cons, List.mem_append]; exact .inr hy)) (by rw [List.length_drop]; omega) o2
    · have hc1 : cellsA v = [v] := by cases v <;> first | rfl | exact absurd ⟨_, rfl⟩ hv
      have hu1 : u.cells.toList = [u] := by
        have := rep_cells h.1 (hk v (by simp))
        rw [hc1] at this
        have hr := h.1
        have hkv := hk v (by simp)
        cases v with
        | i k n => simp only [Rep] at hr; rw [hr.1]; rfl
        | b x => simp only [Rep] at hr; rw [hr]; rfl
        | s o sz len cs' =>
          cases o with
          | true => simp only [Rep] at hr; rw [hr.1]; rfl
          | false => simp only [Rep, Imm] at hr; obtain ⟨_, _, e, _⟩ := hr; rw [e]; rfl
        | ref => simp only [Rep] at hr; obtain ⟨_, _, _, _, e, _⟩ := hr; rw [e]; rfl
        | ptr => simp only [Rep] at hr; obtain ⟨_, _, _, e, _⟩ := hr; rw [e]; rfl
        | ep => simp only [Rep] at hr; obtain ⟨_, e, _⟩ := hr; rw [e]; rfl
        | agg xs => exact absurd ⟨_, rfl⟩ hv
        | tup => simp [okPart] at hkv
        | und => simp [okPart] at hkv
      have hflat : flatV (u :: us) = u :: flatV us := by simp [flatV, hu1]
      rw [hflat] at ho
      have hcl : (flatA (v :: vs)).length = (flatA vs).length + 1 := by simp [flatA, hc1]
      cases cs with
      | nil => simp at hl; omega
      | cons c cs =>
        simp only [OwnL] at ho
        have hrg : regroup (v :: vs) (c :: cs) = c :: regroup vs cs := by
          cases v <;> first | rfl | exact absurd ⟨_, rfl⟩ hv
        rw [hrg]
        simp only [ResT]
        refine ⟨res1_cell ho.1.1 ho.1.2, ?_⟩
        rw [own_cells1 ho.1.2]
        exact resT_of h.2 (fun y hy => hk y (by simp [hy])) (fun y hy => hx y (by simp only [flatA, List.map_cons, List.flatten_cons, List.mem_append]; exact .inr hy)) (by simp at hl; simp only [flatA] at hcl ⊢; simp only [flatA] at hl; omega) ho.2
  | [], _ :: _, _, _, h, _, _, _, _ => by simp [RepL] at h
  | _ :: _, [], _, _, h, _, _, _, _ => by simp [RepL] at h

def tupV (us : List Value) : Value := match us with
  | [u] => u
  | us => .tuple us.toArray

theorem regroup_len : ∀ {vs cs : List A}, cs.length = (flatA vs).length → (regroup vs cs).length = vs.length
  | [], cs, _ => rfl
  | v :: vs, cs, h => by
    by_cases hv : ∃ xs, v = .agg xs
    · obtain ⟨xs, rfl⟩ := hv
      simp only [regroup, List.length_cons]
      rw [regroup_len (by simp [flatA, cellsA] at h ⊢; omega)]
    · have hc1 : cellsA v = [v] := by cases v <;> first | rfl | exact absurd ⟨_, rfl⟩ hv
      cases cs with
      | nil => simp [flatA, hc1] at h
      | cons c cs =>
        have hrg : regroup (v :: vs) (c :: cs) = c :: regroup vs cs := by
          cases v <;> first | rfl | exact absurd ⟨_, rfl⟩ hv
        rw [hrg]
        simp only [List.length_cons]
        rw [regroup_len (by simp [flatA, hc1] at h ⊢; omega)]

theorem resOwn_of [Use] {rs : List A} {us : List Value} (hl : rs.length = us.length) (h : ResT w L m 0 rs us) (hnt : ∀ r ∈ rs, ∀ xs, r ≠ .tup xs) : ResOwn w L m (tupOf rs) (tupV us) := by
  match rs, us, hl with
  | [r], [u], _ =>
    simp only [ResT] at h
    simp only [tupOf, tupV]
    unfold ResOwn
    split
    · exact (hnt _ (List.mem_singleton.2 rfl) _ rfl).elim
    · exact h.1
  | [], [], _ => simp only [tupOf, tupV, ResOwn]; exact ⟨#[], rfl, by simpa using h⟩
  | r1 :: r2 :: rs, u1 :: u2 :: us, _ => simp only [tupOf, tupV, ResOwn]; exact ⟨(u1 :: u2 :: us).toArray, rfl, by simpa using h⟩

theorem resT_notup [Use] : ∀ {rs : List A} {us : List Value} {k : Nat}, ResT w L m k rs us → ∀ r ∈ rs, ∀ xs, r ≠ .tup xs
  | [], _, _, _ => by simp
  | r :: rs, u :: us, k, h => by
    simp only [ResT] at h
    intro r' hr' xs e
    rcases List.mem_cons.1 hr' with rfl | hr'
    · subst e; simp [Res1] at h
    · exact resT_notup h.2 r' hr' xs e
  | _ :: _, [], _, h => by simp [ResT] at h

/-- The blocks of a root from here on only read. -/
def frzLab (L : Lab) (id : Id) : Lab := fun b => match L b with
  | .at i p => if i = id then .prot else .at i p
  | .prot => .prot
  | .free => .free

theorem frzLab_at {id i : Id} {b : Nat} {p : List Nat} (h : frzLab L id b = .at i p) : i ≠ id ∧ L b = .at i p := by
  unfold frzLab at h
  split at h
  · split at h
    · cases h
    · cases h; exact ⟨by assumption, by assumption⟩
  · cases h
  · cases h
theorem frzLab_ne {id i : Id} {b : Nat} {p : List Nat} (h : L b = .at i p) (hi : i ≠ id) : frzLab L id b = .at i p := by simp [frzLab, h, hi]
theorem frzLab_id {id : Id} {b : Nat} {p : List Nat} (h : L b = .at id p) : frzLab L id b = .prot := by simp [frzLab, h]
theorem frzLab_prot {id : Id} {b : Nat} (h : L b = .prot) : frzLab L id b = .prot := by simp [frzLab, h]
theorem frzLab_free {id : Id} {b : Nat} (h : L b = .free) : frzLab L id b = .free := by simp [frzLab, h]

theorem freeze_ok [Use] (h : HRel w0 L0 U hp w L) (id : Id) : HRel w0 L0 U (upd hp id none) w (frzLab L id) ∧ Keeps U w L hp U w (frzLab L id) (upd hp id none) := by
  have hne : ∀ i r, upd hp id none i = some r → i ≠ id ∧ hp i = some r := by
    intro i r hr
    by_cases hi : i = id
    · subst hi; rw [upd_same] at hr; cases hr
    · rw [upd_ne _ _ _ _ hi] at hr; exact ⟨hi, hr⟩
  refine ⟨⟨fun i r hr => ?_, fun b b' i p hb hb' => ?_, fun b hb => frzLab_free (h.free b hb), fun b i p hb => h.used b i p (frzLab_at hb).2, fun i r hr => h.usedR i r (hne i r hr).2, fun b hb => ⟨frzLab_prot (h.prot b hb).1, (h.prot b hb).2⟩, h.size, h.os, h.tape, h.output, h.use, h.frz⟩,
    ⟨fun _ hk => hk, fun b hb => ⟨frzLab_prot hb, rfl⟩, fun i r hr _ => ⟨r, (hne i r hr).2, fun _ => Nat.le_refl _⟩, fun i p v hu hv hn => ?_⟩⟩
  · obtain ⟨hi, hr⟩ := hne i r hr
    obtain ⟨u, hu⟩ := h.roots i r hr
    exact ⟨u, Own.move (fun b hb => ⟨frzLab_prot hb, rfl⟩) _ [] [] u (fun b q hq => ⟨frzLab_ne hq hi, rfl⟩) hu⟩
  · exact h.inj b b' i p (frzLab_at hb).2 (frzLab_at hb').2
  · have hi : i ≠ id := by
      rintro rfl
      simp [TM.node, upd_same] at hn
    have e : TM.node (upd hp id none) i p v = TM.node hp i p v := by unfold TM.node; rw [upd_ne _ _ _ _ hi]
    rw [e] at hn
    exact ⟨hn, fun b hb => ⟨frzLab_ne hb hi, fun cur e hc => ⟨cur, hc, rfl⟩⟩⟩

theorem frz1_ok [B : Use] (h : HRel w0 L0 U hp w L) {v c : A} {u : Value} {us : List (Id × Option Root)} (hv : Rep U w L hp v u) (hf : frz1 hp v = some (c, us)) :
    ∃ L1, HRel w0 L0 U (applyH hp us) w L1 ∧ Keeps U w L hp U w L1 (applyH hp us) ∧ Rep U w L1 (applyH hp us) c u ∧ ∀ b i p, L1 b = .at i p → L b = .at i p := by
  unfold frz1 at hf
  split at hf
  · rename_i id ver off sz len
    rw [Option.map_eq_some_iff] at hf
    obtain ⟨⟨c', rd⟩, hs, he⟩ := hf
    cases he
    obtain ⟨k1, k2⟩ := freeze_ok h id
    have e : applyH hp [(id, none)] = upd hp id none := rfl
    rw [e]
    refine ⟨_, k1, k2, ?_⟩
    have hc : Imm w (isProt (frzLab L id)) c' u := snap1_imm h (Q := isProt (frzLab L id)) (fun b hb => ⟨frzLab_prot hb.1, hb.2⟩) hv hs fun i hi b q hq => by
      have hid : i = id := by
        unfold snap1 at hs
        simp only at hs
        split at hs
        · split at hs
          · cases hs; simpa using hi
          · cases hs
        · cases hs
      subst hid
      exact ⟨frzLab_id hq, h.use b fun hp => by rw [(h.prot b hp).1] at hq; cases hq⟩
    have hf' : ∃ sz len cs, c' = .s false sz len cs := by
      unfold snap1 at hs
      simp only at hs
      split at hs
      · split at hs
        · cases hs; exact ⟨_, _, _, rfl⟩
        · cases hs
      · cases hs
    obtain ⟨sz', len', cs, rfl⟩ := hf'
    exact ⟨by simpa only [Rep] using hc, fun b i p hb => (frzLab_at hb).2⟩
  · cases hf
    exact ⟨L, h, Keeps.rfl', hv, fun _ _ _ hb => hb⟩

theorem frzL_ok [B : Use] : ∀ {vs cs : List A} {hp : Hp} {L : Lab} {vals : List Value} {us : List (Id × Option Root)}, HRel w0 L0 U hp w L → RepL U w L hp vs vals → frzL hp vs = some (cs, us) →
    ∃ L1, HRel w0 L0 U (applyH hp us) w L1 ∧ Keeps U w L hp U w L1 (applyH hp us) ∧ RepL U w L1 (applyH hp us) cs vals ∧ ∀ b i p, L1 b = .at i p → L b = .at i p
  | [], cs, hp, L, vals, us, h, hv, hf => by
    cases hf
    exact ⟨L, h, Keeps.rfl', hv, fun _ _ _ hb => hb⟩
  | v :: vs, cs, hp, L, vals, us, h, hv, hf => by
    cases vals with
    | nil => simp [RepL] at hv
    | cons u vals =>
      simp only [RepL] at hv
      unfold frzL at hf
      split at hf
      · cases hf
      · rename_i c us1 h1
        split at hf
        · cases hf
        · rename_i cs1 us2 h2
          cases hf
          obtain ⟨L1, k1, k2, k3, k4⟩ := frz1_ok h hv.1 h1
          obtain ⟨L2, m1, m2, m3, m4⟩ := frzL_ok k1 (RepL.mono k2 _ _ hv.2) h2
          rw [applyH_append]
          refine ⟨L2, m1, k2.trans m2, ?_⟩
          simp only [RepL]
          exact ⟨⟨Rep.mono m2 _ _ k3, m3⟩, fun b i p hb => k4 b i p (m4 b i p hb)⟩

theorem frzL_part : ∀ {xs cs : List A} {hp : Hp} {us : List (Id × Option Root)}, frzL hp xs = some (cs, us) → (∀ x ∈ cs, okPart x = true ∧ cellsA x = [x]) → cs.length = xs.length ∧ ∀ x ∈ xs, okPart x = true ∧ cellsA x = [x]
  | [], _, _, _, h, _ => by cases h; simp
  | x :: xs, cs, hp, us, h, hc => by
    unfold frzL at h
    split at h
    · cases h
    · rename_i c u h1
      split at h
      · cases h
      · rename_i cs1 us1 h2
        cases h
        obtain ⟨e1, e2⟩ := frzL_part h2 fun y hy => hc y (by simp [hy])
        refine ⟨by simp [e1], fun y hy => ?_⟩
        rcases List.mem_cons.1 hy with rfl | hy
        · unfold frz1 at h1
          split at h1
          · exact ⟨rfl, rfl⟩
          · cases h1
            exact hc _ (by simp)
        · exact e2 y hy

theorem frzL_used : ∀ {xs cs : List A} {hp : Hp} {us : List (Id × Option Root)}, (∀ id r, hp id = some r → U id.1) → frzL hp xs = some (cs, us) → ∀ i ∈ us.map (·.1), U i.1
  | [], _, _, _, _, h => by cases h; simp
  | x :: xs, cs, hp, us, hU, h => by
    unfold frzL at h
    split at h
    · cases h
    · rename_i c u h1
      split at h
      · cases h
      · rename_i cs1 us1 h2
        cases h
        have h3 : ∀ i ∈ u.map (·.1), U i.1 := by
          unfold frz1 at h1
          split at h1
          · rename_i id ver off sz len
            rw [Option.map_eq_some_iff] at h1
            obtain ⟨⟨c', rd⟩, hs, he⟩ := h1
            cases he
            intro i hi
            simp only [List.map_cons, List.map_nil, List.mem_singleton] at hi
            subst hi
            unfold snap1 at hs
            simp only at hs
            split at hs
            · rename_i hn
              unfold node at hn
              split at hn
              · exact hU _ _ (by assumption)
              · cases hn
            · cases hs
          · cases h1; simp
        have hU' : ∀ id r, applyH hp u id = some r → U id.1 := by
          intro id r hr
          unfold frz1 at h1
          split at h1
          · rename_i id' ver off sz len
            rw [Option.map_eq_some_iff] at h1
            obtain ⟨⟨c', rd⟩, hs, he⟩ := h1
            cases he
            change upd hp id' none id = some r at hr
            by_cases hi : id = id'
            · subst hi; rw [upd_same] at hr; cases hr
            · rw [upd_ne _ _ _ _ hi] at hr; exact hU _ _ hr
          · cases h1
            exact hU id r hr
        intro i hi
        simp only [List.map_append, List.mem_append] at hi
        rcases hi with hi | hi
        · exact h3 i hi
        · exact frzL_used hU' h2 i hi

theorem fin_ok [Use] (h : HRel w0 L0 U hp w L) (hm : 3 ≤ m) (hU : ¬ U m) {vs : List A} {us : List Value} (hv : RepL U w L hp vs us) {r : A} {ups : List (Id × Option Root)} (hf : finV hp vs = some (r, ups)) :
    ∃ L1, HRel w0 L0 (addU U m) (applyH hp ups) w L1 ∧ Keeps U w L hp U w L1 (applyH hp ups) ∧ ResOwn w (labE L1 m) 0 r (tupV us) := by
  have h' : HRel w0 L0 (addU U m) hp w L := h.mono fun k hk => addU_l hk
  have hv' : RepL (addU U m) w L hp vs us := RepL.mono (keeps_ups (U := U) (V := addU U m) [] (by simp) fun k hk => addU_l hk) _ _ hv
  unfold finV at hf
  split at hf
  · rename_i id path ver off
    split at hf
    · rename_i r0 hr0
      split at hf
      · rename_i hc
        obtain ⟨rfl, rfl, hlen⟩ := hc
        cases hf
        obtain ⟨k1, k2, k3⟩ := move_ok (path := []) h' hr0 (m, 999) [0] (.inr rfl) fun b q => fresh_lab h hU 999 b _
        refine ⟨_, k1, k2.restrict fun k hk => addU_l hk, ?_⟩
        cases us with
        | nil => simp [RepL] at hv
        | cons u us =>
          cases us with
          | cons _ _ => simp [RepL] at hv
          | nil =>
            simp only [RepL, Rep] at hv
            obtain ⟨⟨_, _, ad, rfl, h5⟩, _⟩ := hv
            obtain ⟨b, rfl, h6⟩ := h5 (by simp [node, hr0, verOk, getP])
            obtain ⟨u1, hu1⟩ := h.roots id r0 hr0
            have hlab : ∀ b q, L b = .at id q → labE (relab L id [] (m, 999) [0]) m b = .at (0, 0) q := fun b q hq => by
              have : relab L id [] (m, 999) [0] b = .at (m, 999) ([0] ++ q) := relab_moved (by simpa using hq)
              rw [labE_res (by simpa using this)]
            have hprot : ∀ b, L b = .prot → labE (relab L id [] (m, 999) [0]) m b = .prot ∧ w.heap[b]? = w.heap[b]? := fun b hb => ⟨labE_prot (k3 b hb).1, rfl⟩
            have hu2 := Own.move hprot _ [] [] u1 (fun b q hq => ⟨hlab b _ hq, rfl⟩) hu1
            simp only [tupV, ResOwn, Res1]
            simp only [Own] at hu1
            rcases hu1 with ⟨_, h0, _⟩ | ⟨b', cur, e, cap, rfl, g2, g3, g4, g5, g6, g7, g8⟩
            · omega
            · obtain rfl := h.inj b b' id [] h6 g2
              refine ⟨b, cap, rfl, hlab b [] h6, ?_⟩
              have e1 : r0.cs.length = r0.sz := by rw [g7, hlen, Nat.one_mul]
              rw [e1]
              rw [hlen] at hu2
              exact hu2
      · cases hf
    · cases hf
  · split at hf
    · rename_i xs us0 hfz
      simp only [Option.map_eq_some_iff] at hf
      obtain ⟨⟨cs, us', rd⟩, h1, h2⟩ := hf
      cases h2
      have hcell := closeL_part h1
      obtain ⟨hxl, hcell0⟩ := frzL_part hfz hcell
      have hpart : ∀ v ∈ vs, okPart v = true := by
        intro v hv
        cases v with
        | und => exact (hcell0 .und (by simp only [flatA, List.mem_flatten, List.mem_map]; exact ⟨[.und], ⟨.und, hv, rfl⟩, by simp⟩)).1
        | tup ys => exact (hcell0 (.tup ys) (by simp only [flatA, List.mem_flatten, List.mem_map]; exact ⟨[.tup ys], ⟨.tup ys, hv, rfl⟩, by simp⟩)).1
        | _ => rfl
      obtain ⟨L0', q1, q2, q3, q4⟩ := frzL_ok h' (flat_rep hv' hpart) hfz
      have hus0 := frzL_used (U := U) h.usedR hfz
      have hused0 : ∀ id r, applyH hp us0 id = some r → U id.1 := by
        intro id r hr
        by_cases hi : id ∈ us0.map (·.1)
        · exact hus0 id hi
        · rw [applyH_other _ _ hi] at hr
          exact h.usedR id r hr
      have hused := closeL_used (U := U) _ _ _ _ _ hused0 h1
      have hmu : (m, 999) ∉ us'.map (·.1) := fun hmem => hU (hused _ hmem)
      obtain ⟨L1, k1, k2, k3, k4, k5, k6⟩ := closeL_ok (m, 999) [] (.inr rfl) xs (flatV us) 0 (applyH hp us0) L0' cs us' rd q1 q3 h1 hmu fun b j q _ _ => fun hb => fresh_lab h hU 999 b _ (q4 _ _ _ hb)
      rw [applyH_append]
      refine ⟨L1, k1, (q2.trans k3).restrict fun k hk => addU_l hk, ?_⟩
      have hT := resT_of (RepL.mono (q2.trans k3) _ _ hv') hpart (fun x hx => (hcell0 x hx).2) (by rw [k5, hxl]) k2
      exact resOwn_of (by rw [regroup_len (by rw [k5, hxl])]; exact (rep_agg_len hv).symm) hT (resT_notup hT)
    · cases hf

/-- What a result is. -/
def ResAt (P : Program) (tmps : Array Value) (w : World) : ResultVar → Value → Prop
  | .tmp t, u => u = tmps.getD t undef
  | .cell a t, u => ∃ ad, tmps.getD a undef = .pointer (some ad) ∧ (loadVar t ad).run P w = .ok u w

def ResL (P : Program) (tmps : Array Value) (w : World) : List ResultVar → List Value → Prop
  | [], [] => True
  | r :: rs, u :: us => ResAt P tmps w r u ∧ ResL P tmps w rs us
  | _, _ => False

def resSem (tmps : Array Value) : ResultVar → Sem Value
  | .tmp t => pure (tmps.getD t undef)
  | .cell a t => do loadVar t (← asAddr (tmps.getD a undef))

theorem resSem_run {tmps : Array Value} {r : ResultVar} {u : Value} (h : ResAt P tmps w r u) : (resSem tmps r).run P w = .ok u w := by
  cases r with
  | tmp t => simp only [ResAt] at h; simp [resSem, h, go_sem]
  | cell a t =>
    obtain ⟨ad, h1, h2⟩ := h
    simp only [resSem, h1, asAddr, Sem.run_bind, Sem.run_pure, Result.andThen]
    exact h2

theorem resL_run {tmps : Array Value} : ∀ {rs : List ResultVar} {us : List Value}, ResL P tmps w rs us → (rs.mapM (resSem tmps)).run P w = .ok us w
  | [], [], _ => by simp [go_sem]
  | r :: rs, u :: us, h => by
    simp only [ResL] at h
    rw [List.mapM_cons]
    simp only [Sem.run_bind, resSem_run h.1, Result.andThen, resL_run h.2, Sem.run_pure]
  | [], _ :: _, h => by simp [ResL] at h
  | _ :: _, [], h => by simp [ResL] at h

theorem results_run {fn : Func} {tmps : Array Value} {rs : List ResultVar} (hrs : fn.results.toList = rs) {us : List Value} (h : ResL P tmps w rs us) : (results fn tmps).run P w = .ok (tupV us) w := by
  have e : results fn tmps = (fn.results.mapM (resSem tmps)) >>= fun vs => pure (if h : vs.size = 1 then vs[0] else .tuple vs) := rfl
  rw [e, Array.mapM_eq_mapM_toList, hrs]
  simp only [Sem.run_bind, Sem.run_map, resL_run h, Result.andThen, Sem.run_pure]
  match us with
  | [] => rfl
  | [u] => rfl
  | u1 :: u2 :: us => rfl

theorem ress_ok [Use] (hT : TabOk P T) {tmps : Array Value} {st : St} (h : HRel w0 L0 U st.hp w L) (hs : Slots U w L st.hp st.sl tmps) : ∀ (rs : List ResultVar) (vs : List A), ressOf T st rs = some vs → ∃ us, ResL P tmps w rs us ∧ RepL U w L st.hp vs us
  | [], vs, he => by
    cases he
    exact ⟨[], trivial, by simp [RepL]⟩
  | r :: rs, vs, he => by
    unfold ressOf at he
    split at he
    · rename_i v vs' h1 h2
      cases he
      obtain ⟨us, g1, g2⟩ := ress_ok hT h hs rs vs' h2
      cases r with
      | tmp t =>
        simp only [resOf] at h1
        cases h1
        exact ⟨tmps.getD t undef :: us, ⟨rfl, g1⟩, by simp only [RepL]; exact ⟨hs t, g2⟩⟩
      | cell a t =>
        simp only [resOf] at h1
        split at h1
        · rename_i ti ht
          rw [Option.map_eq_some_iff] at h1
          obtain ⟨e, he, rfl⟩ := h1
          obtain ⟨_, u, f1, f2⟩ := load_ok (P := P) hT h ht (hs a) he
          have hptr : ∃ ad, tmps.getD a undef = .pointer (some ad) := by
            have hr := hs a
            cases hsl : st.sl a with
            | ptr id p v off => rw [hsl] at hr; simp only [Rep] at hr; obtain ⟨_, _, ad, e, _⟩ := hr; exact ⟨ad, e⟩
            | ep cs => rw [hsl] at hr; simp only [Rep] at hr; obtain ⟨ad, e, _⟩ := hr; exact ⟨ad, e⟩
            | _ => rw [hsl] at he; simp [loadA] at he
          obtain ⟨ad, had⟩ := hptr
          refine ⟨u :: us, ⟨⟨ad, had, ?_⟩, g1⟩, by simp only [RepL]; exact ⟨f2, g2⟩⟩
          rw [had] at f1
          simpa [Instr.loadAt, Instr.sureAddr] using f1
        · cases h1
    · cases he

end
end Go.TM
