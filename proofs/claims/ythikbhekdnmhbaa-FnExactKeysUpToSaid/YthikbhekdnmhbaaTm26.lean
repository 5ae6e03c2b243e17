/- The tree machine, 26: how a body ends. -/
import Derived.Test.YthikbhekdnmhbaaTm25
namespace Go.TM
set_option linter.unusedVariables false
set_option linter.unusedSimpArgs false

/-- The labels at a body's end: results under the instance 0, what was lent under 2. -/
def labE (L : Lab) (m : Nat) : Lab := fun b => match L b with
  | .free => .free
  | .prot => .prot
  | .at i p => if i = (m, 999) then (match p with
      | k :: q => .at (0, k) q
      | [] => .free) else if i.1 = 2 then .at i p else .free

theorem labE_prot {L : Lab} {m b : Nat} (h : L b = .prot) : labE L m b = .prot := by simp [labE, h]
theorem labE_free {L : Lab} {m b : Nat} (h : L b = .free) : labE L m b = .free := by simp [labE, h]
theorem labE_res {L : Lab} {m b k : Nat} {q : List Nat} (h : L b = .at (m, 999) (k :: q)) : labE L m b = .at (0, k) q := by simp [labE, h]
theorem labE_io {L : Lab} {m b t : Nat} {q : List Nat} (hm : 3 ≤ m) (h : L b = .at (2, t) q) : labE L m b = .at (2, t) q := by
  simp only [labE, h]
  rw [if_neg (by simp; omega)]
  simp

theorem labE_at {L : Lab} {m b : Nat} {i : Id} {p : List Nat} (h : labE L m b = .at i p) : (∃ k, i = (0, k) ∧ L b = .at (m, 999) (k :: p)) ∨ (i.1 = 2 ∧ L b = .at i p) := by
  unfold labE at h
  split at h
  · cases h
  · cases h
  · rename_i i' p' hb
    split at h
    · rename_i hi
      subst hi
      split at h
      · cases h; exact .inl ⟨_, rfl, hb⟩
      · cases h
    · split at h
      · cases h; exact .inr ⟨by assumption, hb⟩
      · cases h

section
variable {P : Program} {T : Nat → Option TI} {w0 w : World} {L0 L : Lab} {U : Nat → Prop} {hp : Hp} {m : Nat}

theorem own_E [Use] {c : A} {k : Nat} {u : Value} (h : Own w L c (m, 999) ([] ++ [k]) u) : Own w (labE L m) c (0, k) [] u :=
  Own.move (L' := labE L m) (fun b hb => ⟨labE_prot hb, rfl⟩) c _ [] u (fun b q hq => ⟨labE_res (by simpa using hq), rfl⟩) h

theorem iosOf_get : ∀ {shs : List (Nat × Nat)} {t0 : Nat} {outs : List (List A)}, iosOf hp t0 shs = some outs → outs.length = shs.length ∧ ∀ (t : Nat) sh cs, shs[t]? = some sh → outs[t]? = some cs → ∃ r, hp (2, t0 + t) = some r ∧ r.sz = sh.1 ∧ r.len = sh.2 ∧ r.cs = cs
  | [], t0, outs, h => by cases h; simp
  | sh :: shs, t0, outs, h => by
    unfold iosOf at h
    split at h
    · rename_i r cs h1 h2
      split at h
      · rename_i hc
        cases h
        obtain ⟨e1, e2⟩ := iosOf_get h2
        refine ⟨by simp [e1], fun t sh' cs' g1 g2 => ?_⟩
        cases t with
        | zero =>
          simp at g1 g2
          subst g1; subst g2
          exact ⟨r, h1, hc.1, hc.2, rfl⟩
        | succ t =>
          obtain ⟨r', f1, f2⟩ := e2 t sh' cs' (by simpa using g1) (by simpa using g2)
          exact ⟨r', by rw [show t0 + (t + 1) = t0 + 1 + t from by omega]; exact f1, f2⟩
      · cases h
    · cases h

theorem end_h [Use] (h : HRel w0 L0 U hp w L) (hm : 3 ≤ m) {shs : List (Nat × Nat)} {outs : List (List A)} (ho : iosOf hp 0 shs = some outs) : HRel w0 L0 (fun _ => True) (ioHp shs outs) w (labE L m) := by
  obtain ⟨e1, e2⟩ := iosOf_get ho
  refine ⟨fun id r hr => ?_, fun b b' i p hb hb' => ?_, fun b hb => labE_free (h.free b hb), fun _ _ _ _ => trivial, fun _ _ _ => trivial, fun b hb => ⟨labE_prot (h.prot b hb).1, (h.prot b hb).2⟩, h.size, h.os, h.tape, h.output, h.frz⟩
  · unfold ioHp at hr
    split at hr
    · rename_i h2
      split at hr
      · rename_i sh cs g1 g2
        cases hr
        obtain ⟨r1, f1, f2, f3, f4⟩ := e2 id.2 sh cs g1 g2
        rw [Nat.zero_add] at f1
        have hid : id = (2, id.2) := Prod.ext h2 rfl
        obtain ⟨u, hu⟩ := h.roots _ r1 f1
        refine ⟨u, ?_⟩
        rw [f2, f3, f4] at hu
        rw [hid]
        exact Own.move (L' := labE L m) (fun b hb => ⟨labE_prot hb, rfl⟩) _ [] [] u (fun b q hq => ⟨labE_io hm hq, rfl⟩) hu
      · cases hr
    · cases hr
  · rcases labE_at hb with ⟨k, rfl, g1⟩ | ⟨g0, g1⟩
    · rcases labE_at hb' with ⟨k', f0, f1⟩ | ⟨f0, f1⟩
      · cases f0
        exact h.inj b b' _ _ g1 f1
      · cases f0
    · rcases labE_at hb' with ⟨k', rfl, f1⟩ | ⟨f0, f1⟩
      · cases g0
      · exact h.inj b b' _ _ g1 f1

theorem closeL_part : ∀ {xs cs : List A} {hp : Hp} {us : List (Id × Option Root)} {rd : List Id}, closeL hp xs = some (cs, us, rd) → ∀ x ∈ xs, okPart x = true ∧ cellsA x = [x]
  | [], _, _, _, _, _ => by simp
  | x :: xs, cs, hp, us, rd, h => by
    unfold closeL at h
    split at h
    · cases h
    · rename_i c u rd1 h1
      split at h
      · cases h
      · rename_i cs1 us1 rds1 h2
        intro y hy
        rcases List.mem_cons.1 hy with rfl | hy
        · cases y <;> first | exact ⟨rfl, rfl⟩ | simp [close1] at h1
        · exact closeL_part h2 y hy

theorem flat_part : ∀ {vs cs : List A} {hp : Hp} {us : List (Id × Option Root)} {rd : List Id}, closeL hp (flatA vs) = some (cs, us, rd) → ∀ v ∈ vs, okPart v = true := by
  intro vs cs hp us rd h v hv
  have hc := closeL_part h
  cases v with
  | und => exact (hc .und (by simp only [flatA, List.mem_flatten, List.mem_map]; exact ⟨[.und], ⟨.und, hv, rfl⟩, by simp⟩)).1
  | tup xs => exact (hc (.tup xs) (by simp only [flatA, List.mem_flatten, List.mem_map]; exact ⟨[.tup xs], ⟨.tup xs, hv, rfl⟩, by simp⟩)).1
  | _ => rfl

abbrev flatV (us : List Value) : List Value := (us.map fun u => u.cells.toList).flatten

theorem repL_append [Use] : ∀ {xs ys : List A} {us vs : List Value}, RepL U w L hp xs us → RepL U w L hp ys vs → RepL U w L hp (xs ++ ys) (us ++ vs)
  | [], ys, [], vs, _, h => h
  | x :: xs, ys, u :: us, vs, h1, h2 => by simp only [RepL, List.cons_append] at h1 ⊢; exact ⟨h1.1, repL_append h1.2 h2⟩
  | [], _, _ :: _, _, h, _ => by simp [RepL] at h
  | _ :: _, _, [], _, h, _ => by simp [RepL] at h

theorem flat_rep [Use] : ∀ {vs : List A} {us : List Value}, RepL U w L hp vs us → (∀ v ∈ vs, okPart v = true) → RepL U w L hp (flatA vs) (flatV us)
  | [], [], _, _ => by simp [flatA, flatV, RepL]
  | v :: vs, u :: us, h, hk => by
    simp only [RepL] at h
    exact repL_append (rep_cells h.1 (hk v (by simp))) (flat_rep h.2 fun x hx => hk x (by simp [hx]))
  | [], _ :: _, h, _ => by simp [RepL] at h
  | _ :: _, [], h, _ => by simp [RepL] at h

theorem ownL_len [Use] {id : Id} {p : List Nat} : ∀ {cs : List A} {k : Nat} {us : List Value}, OwnL w L cs id p k us → cs.length ≤ us.length
  | [], _, _, _ => Nat.zero_le _
  | c :: cs, k, u :: us, h => by simp only [OwnL] at h; have := ownL_len h.2; simp; omega
  | _ :: _, _, [], h => by simp [OwnL] at h

theorem owns_of [Use] : ∀ {cs : List A} {k : Nat} {us : List Value}, cs.length = us.length → OwnL w L cs (m, 999) [] k us → Owns w (labE L m) 0 k cs us
  | [], k, [], _, _ => by simp [Owns]
  | c :: cs, k, u :: us, hl, h => by
    simp only [OwnL] at h
    simp only [Owns]
    exact ⟨⟨h.1.1, own_E h.1.2⟩, owns_of (by simpa using hl) h.2⟩
  | [], _, _ :: _, hl, _ => by simp at hl
  | _ :: _, _, [], hl, _ => by simp at hl

theorem ownL_split [Use] {id : Id} {p : List Nat} : ∀ (n : Nat) (cs : List A) (k : Nat) (us vs : List Value), us.length = n → n ≤ cs.length → OwnL w L cs id p k (us ++ vs) → OwnL w L (cs.take n) id p k us ∧ OwnL w L (cs.drop n) id p (k + n) vs
  | 0, cs, k, us, vs, hu, _, h => by
    cases us with
    | nil => simpa [OwnL] using h
    | cons u us => simp at hu
  | n + 1, c :: cs, k, u :: us, vs, hu, hn, h => by
    simp only [List.cons_append, OwnL] at h
    obtain ⟨h1, h2⟩ := ownL_split n cs (k + 1) us vs (by simpa using hu) (by simpa using hn) h.2
    simp only [List.take_succ_cons, List.drop_succ_cons, OwnL]
    exact ⟨⟨h.1, h1⟩, by rwa [show k + (n + 1) = k + 1 + n from by omega]⟩
  | n + 1, [], _, _, _, _, hn, _ => by simp at hn
  | n + 1, _ :: _, _, [], _, hu, _, _ => by simp at hu

theorem rep_agg_len [Use] {xs : List A} {us : List Value} (h : RepL U w L hp xs us) : us.length = xs.length := (repL_get h).1

theorem res1_cell [Use] {c : A} {k : Nat} {u : Value} (h1 : u.oneCell' = true) (h : Own w L c (m, 999) ([] ++ [k]) u) : Res1 w (labE L m) 0 k c u := by
  have := own_E h
  cases c <;> first | exact ⟨h1, this⟩ | (simp [Own] at h)

theorem own_cells1 [Use] {c : A} {id : Id} {p : List Nat} {u : Value} (h : Own w L c id p u) : cellsA c = [c] := by
  cases c <;> first | rfl | (simp [Own] at h)

/-- The results, closed. -/
theorem resT_of [Use] : ∀ {vs : List A} {us : List Value} {cs : List A} {k : Nat}, RepL U w L hp vs us → (∀ v ∈ vs, okPart v = true) → (∀ x ∈ flatA vs, cellsA x = [x]) → cs.length = (flatA vs).length → OwnL w L cs (m, 999) [] k (flatV us) →
    ResT w (labE L m) 0 k (regroup vs cs) us
  | [], [], cs, k, _, _, _, hl, _ => by simp [regroup, ResT]
  | v :: vs, u :: us, cs, k, h, hk, hx, hl, ho => by
    simp only [RepL] at h
    by_cases hv : ∃ xs, v = .agg xs
    · obtain ⟨xs, rfl⟩ := hv
      have hu := h.1
      simp only [Rep] at hu
      obtain ⟨ua, rfl, hu⟩ := hu
      have hlen := rep_agg_len hu
      have hcl : (flatA (.agg xs :: vs)).length = xs.length + (flatA vs).length := by simp [flatA, cellsA]
      have hflat : flatV (.agg ua :: us) = ua.toList ++ flatV us := rfl
      rw [hflat] at ho
      obtain ⟨o1, o2⟩ := ownL_split xs.length cs k ua.toList (flatV us) hlen (by omega) ho
      simp only [regroup, ResT, Res1, cellsA]
      refine ⟨⟨ua, rfl, owns_of (by rw [List.length_take]; omega) o1⟩, ?_⟩
      have e : (cs.take xs.length).length = xs.length := by rw [List.length_take]; omega
      rw [e]
      exact resT_of h.2 (fun y hy => hk y (by simp [hy])) (fun y hy => hx y (by simp only [flatA, List.map_cons, List.flatten_cons, List.mem_append]; exact .inr hy)) (by rw [List.length_drop]; omega) o2
    · have hc1 : cellsA v = [v] := by cases v <;> first | rfl | exact absurd ⟨_, rfl⟩ hv
      have hu1 : u.cells.toList = [u] := by
        have := rep_cells h.1 (hk v (by simp))
        rw [hc1] at this
        have hr := h.1
        have hkv := hk v (by simp)
        cases v with
        | i k n => simp only [Rep] at hr; rw [hr.1]; rfl
        | b x => simp only [Rep] at hr; rw [hr]; rfl
        | s o sz len cs' =>
          cases o with
          | true => simp only [Rep] at hr; rw [hr.1]; rfl
          | false => simp only [Rep, Imm] at hr; obtain ⟨_, _, e, _⟩ := hr; rw [e]; rfl
        | ref => simp only [Rep] at hr; obtain ⟨_, _, _, _, e, _⟩ := hr; rw [e]; rfl
        | ptr => simp only [Rep] at hr; obtain ⟨_, _, _, e, _⟩ := hr; rw [e]; rfl
        | ep => simp only [Rep] at hr; obtain ⟨_, e, _⟩ := hr; rw [e]; rfl
        | agg xs => exact absurd ⟨_, rfl⟩ hv
        | tup => simp [okPart] at hkv
        | und => simp [okPart] at hkv
      have hflat : flatV (u :: us) = u :: flatV us := by simp [flatV, hu1]
      rw [hflat] at ho
      have hcl : (flatA (v :: vs)).length = (flatA vs).length + 1 := by simp [flatA, hc1]
      cases cs with
      | nil => simp at hl; omega
      | cons c cs =>
        simp only [OwnL] at ho
        have hrg : regroup (v :: vs) (c :: cs) = c :: regroup vs cs := by
          cases v <;> first | rfl | exact absurd ⟨_, rfl⟩ hv
        rw [hrg]
        simp only [ResT]
        refine ⟨res1_cell ho.1.1 ho.1.2, ?_⟩
        rw [own_cells1 ho.1.2]
        exact resT_of h.2 (fun y hy => hk y (by simp [hy])) (fun y hy => hx y (by simp only [flatA, List.map_cons, List.flatten_cons, List.mem_append]; exact .inr hy)) (by simp at hl; simp only [flatA] at hcl ⊢; simp only [flatA] at hl; omega) ho.2
  | [], _ :: _, _, _, h, _, _, _, _ => by simp [RepL] at h
  | _ :: _, [], _, _, h, _, _, _, _ => by simp [RepL] at h

def tupV (us : List Value) : Value := match us with
  | [u] => u
  | us => .tuple us.toArray

theorem regroup_len : ∀ {vs cs : List A}, cs.length = (flatA vs).length → (regroup vs cs).length = vs.length
  | [], cs, _ => rfl
  | v :: vs, cs, h => by
    by_cases hv : ∃ xs, v = .agg xs
    · obtain ⟨xs, rfl⟩ := hv
      simp only [regroup, List.length_cons]
      rw [regroup_len (by simp [flatA, cellsA] at h ⊢; omega)]
    · have hc1 : cellsA v = [v] := by cases v <;> first | rfl | exact absurd ⟨_, rfl⟩ hv
      cases cs with
      | nil => simp [flatA, hc1] at h
      | cons c cs =>
        have hrg : regroup (v :: vs) (c :: cs) = c :: regroup vs cs := by
          cases v <;> first | rfl | exact absurd ⟨_, rfl⟩ hv
        rw [hrg]
        simp only [List.length_cons]
        rw [regroup_len (by simp [flatA, hc1] at h ⊢; omega)]

theorem resOwn_of [Use] {rs : List A} {us : List Value} (hl : rs.length = us.length) (h : ResT w L m 0 rs us) (hnt : ∀ r ∈ rs, ∀ xs, r ≠ .tup xs) : ResOwn w L m (tupOf rs) (tupV us) := by
  match rs, us, hl with
  | [r], [u], _ =>
    simp only [ResT] at h
    simp only [tupOf, tupV]
    unfold ResOwn
    split
    · exact (hnt _ (List.mem_singleton.2 rfl) _ rfl).elim
    · exact h.1
  | [], [], _ => simp only [tupOf, tupV, ResOwn]; exact ⟨#[], rfl, by simpa using h⟩
  | r1 :: r2 :: rs, u1 :: u2 :: us, _ => simp only [tupOf, tupV, ResOwn]; exact ⟨(u1 :: u2 :: us).toArray, rfl, by simpa using h⟩

theorem resT_notup [Use] : ∀ {rs : List A} {us : List Value} {k : Nat}, ResT w L m k rs us → ∀ r ∈ rs, ∀ xs, r ≠ .tup xs
  | [], _, _, _ => by simp
  | r :: rs, u :: us, k, h => by
    simp only [ResT] at h
    intro r' hr' xs e
    rcases List.mem_cons.1 hr' with rfl | hr'
    · subst e; simp [Res1] at h
    · exact resT_notup h.2 r' hr' xs e
  | _ :: _, [], _, h => by simp [ResT] at h

theorem fin_ok [Use] (h : HRel w0 L0 U hp w L) (hm : 3 ≤ m) (hU : ¬ U m) {vs : List A} {us : List Value} (hv : RepL U w L hp vs us) {r : A} {ups : List (Id × Option Root)} (hf : finV hp vs = some (r, ups)) :
    ∃ L1, HRel w0 L0 (addU U m) (applyH hp ups) w L1 ∧ Keeps U w L hp U w L1 (applyH hp ups) ∧ ResOwn w (labE L1 m) 0 r (tupV us) := by
  have h' : HRel w0 L0 (addU U m) hp w L := h.mono fun k hk => addU_l hk
  have hv' : RepL (addU U m) w L hp vs us := RepL.mono (keeps_ups (U := U) (V := addU U m) [] (by simp) fun k hk => addU_l hk) _ _ hv
  unfold finV at hf
  split at hf
  · rename_i id path ver off
    split at hf
    · rename_i r0 hr0
      split at hf
      · rename_i hc
        obtain ⟨rfl, rfl, hlen⟩ := hc
        cases hf
        obtain ⟨k1, k2, k3⟩ := move_ok (path := []) h' hr0 (m, 999) [0] (.inr rfl) fun b q => fresh_lab h hU 999 b _
        refine ⟨_, k1, k2.restrict fun k hk => addU_l hk, ?_⟩
        cases us with
        | nil => simp [RepL] at hv
        | cons u us =>
          cases us with
          | cons _ _ => simp [RepL] at hv
          | nil =>
            simp only [RepL, Rep] at hv
            obtain ⟨⟨_, _, ad, rfl, h5⟩, _⟩ := hv
            obtain ⟨b, rfl, h6⟩ := h5 (by simp [node, hr0, verOk, getP])
            obtain ⟨u1, hu1⟩ := h.roots id r0 hr0
            have hlab : ∀ b q, L b = .at id q → labE (relab L id [] (m, 999) [0]) m b = .at (0, 0) q := fun b q hq => by
              have : relab L id [] (m, 999) [0] b = .at (m, 999) ([0] ++ q) := relab_moved (by simpa using hq)
              rw [labE_res (by simpa using this)]
            have hprot : ∀ b, L b = .prot → labE (relab L id [] (m, 999) [0]) m b = .prot ∧ w.heap[b]? = w.heap[b]? := fun b hb => ⟨labE_prot (k3 b hb).1, rfl⟩
            have hu2 := Own.move hprot _ [] [] u1 (fun b q hq => ⟨hlab b _ hq, rfl⟩) hu1
            simp only [tupV, ResOwn, Res1]
            simp only [Own] at hu1
            rcases hu1 with ⟨_, h0, _⟩ | ⟨b', cur, e, cap, rfl, g2, g3, g4, g5, g6, g7, g8⟩
            · omega
            · obtain rfl := h.inj b b' id [] h6 g2
              refine ⟨b, cap, rfl, hlab b [] h6, ?_⟩
              have e1 : r0.cs.length = r0.sz := by rw [g7, hlen, Nat.one_mul]
              rw [e1]
              rw [hlen] at hu2
              exact hu2
      · cases hf
    · cases hf
  · simp only [Option.map_eq_some_iff] at hf
    obtain ⟨⟨cs, us', rd⟩, h1, h2⟩ := hf
    cases h2
    have hpart := flat_part h1
    have hcell := closeL_part h1
    have hused := closeL_used (U := U) _ _ _ _ _ h.usedR h1
    have hmu : (m, 999) ∉ us'.map (·.1) := fun hmem => hU (hused _ hmem)
    obtain ⟨L1, k1, k2, k3, k4, k5, k6⟩ := closeL_ok (m, 999) [] (.inr rfl) (flatA vs) (flatV us) 0 hp L cs us' rd h' (flat_rep hv' hpart) h1 hmu fun b j q _ _ => fresh_lab h hU 999 b _
    refine ⟨L1, k1, k3.restrict fun k hk => addU_l hk, ?_⟩
    have hT := resT_of (RepL.mono k3 _ _ hv') hpart (fun x hx => (hcell x hx).2) k5 k2
    exact resOwn_of (by rw [regroup_len k5]; exact (rep_agg_len hv).symm) hT (resT_notup hT)

/-- What a result is. -/
def ResAt (P : Program) (tmps : Array Value) (w : World) : ResultVar → Value → Prop
  | .tmp t, u => u = tmps.getD t undef
  | .cell a t, u => ∃ ad, tmps.getD a undef = .pointer (some ad) ∧ (loadVar t ad).run P w = .ok u w

def ResL (P : Program) (tmps : Array Value) (w : World) : List ResultVar → List Value → Prop
  | [], [] => True
  | r :: rs, u :: us => ResAt P tmps w r u ∧ ResL P tmps w rs us
  | _, _ => False

def resSem (tmps : Array Value) : ResultVar → Sem Value
  | .tmp t => pure (tmps.getD t undef)
  | .cell a t => do loadVar t (← asAddr (tmps.getD a undef))

theorem resSem_run {tmps : Array Value} {r : ResultVar} {u : Value} (h : ResAt P tmps w r u) : (resSem tmps r).run P w = .ok u w := by
  cases r with
  | tmp t => simp only [ResAt] at h; simp [resSem, h, go_sem]
  | cell a t =>
    obtain ⟨ad, h1, h2⟩ := h
    simp only [resSem, h1, asAddr, Sem.run_bind, Sem.run_pure, Result.andThen]
    exact h2

theorem resL_run {tmps : Array Value} : ∀ {rs : List ResultVar} {us : List Value}, ResL P tmps w rs us → (rs.mapM (resSem tmps)).run P w = .ok us w
  | [], [], _ => by simp [go_sem]
  | r :: rs, u :: us, h => by
    simp only [ResL] at h
    rw [List.mapM_cons]
    simp only [Sem.run_bind, resSem_run h.1, Result.andThen, resL_run h.2, Sem.run_pure]
  | [], _ :: _, h => by simp [ResL] at h
  | _ :: _, [], h => by simp [ResL] at h

theorem results_run {fn : Func} {tmps : Array Value} {rs : List ResultVar} (hrs : fn.results.toList = rs) {us : List Value} (h : ResL P tmps w rs us) : (results fn tmps).run P w = .ok (tupV us) w := by
  have e : results fn tmps = (fn.results.mapM (resSem tmps)) >>= fun vs => pure (if h : vs.size = 1 then vs[0] else .tuple vs) := rfl
  rw [e, Array.mapM_eq_mapM_toList, hrs]
  simp only [Sem.run_bind, Sem.run_map, resL_run h, Result.andThen, Sem.run_pure]
  match us with
  | [] => rfl
  | [u] => rfl
  | u1 :: u2 :: us => rfl

theorem ress_ok [Use] (hT : TabOk P T) {tmps : Array Value} {st : St} (h : HRel w0 L0 U st.hp w L) (hs : Slots U w L st.hp st.sl tmps) : ∀ (rs : List ResultVar) (vs : List A), ressOf T st rs = some vs → ∃ us, ResL P tmps w rs us ∧ RepL U w L st.hp vs us
  | [], vs, he => by
    cases he
    exact ⟨[], trivial, by simp [RepL]⟩
  | r :: rs, vs, he => by
    unfold ressOf at he
    split at he
    · rename_i v vs' h1 h2
      cases he
      obtain ⟨us, g1, g2⟩ := ress_ok hT h hs rs vs' h2
      cases r with
      | tmp t =>
        simp only [resOf] at h1
        cases h1
        exact ⟨tmps.getD t undef :: us, ⟨rfl, g1⟩, by simp only [RepL]; exact ⟨hs t, g2⟩⟩
      | cell a t =>
        simp only [resOf] at h1
        split at h1
        · rename_i ti ht
          rw [Option.map_eq_some_iff] at h1
          obtain ⟨e, he, rfl⟩ := h1
          obtain ⟨_, u, f1, f2⟩ := load_ok (P := P) hT h ht (hs a) he
          have hptr : ∃ ad, tmps.getD a undef = .pointer (some ad) := by
            have hr := hs a
            cases hsl : st.sl a with
            | ptr id p v off => rw [hsl] at hr; simp only [Rep] at hr; obtain ⟨_, _, ad, e, _⟩ := hr; exact ⟨ad, e⟩
            | ep cs => rw [hsl] at hr; simp only [Rep] at hr; obtain ⟨ad, e, _⟩ := hr; exact ⟨ad, e⟩
            | _ => rw [hsl] at he; simp [loadA] at he
          obtain ⟨ad, had⟩ := hptr
          refine ⟨u :: us, ⟨⟨ad, had, ?_⟩, g1⟩, by simp only [RepL]; exact ⟨f2, g2⟩⟩
          rw [had] at f1
          simpa [Instr.loadAt, Instr.sureAddr] using f1
        · cases h1
    · cases he

end
end Go.TM
