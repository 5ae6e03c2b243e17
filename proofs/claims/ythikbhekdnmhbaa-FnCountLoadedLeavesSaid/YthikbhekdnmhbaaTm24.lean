/- The tree machine, 24: regions that draw their order. -/
import Derived.Test.YthikbhekdnmhbaaTm23
namespace Go.TM
set_option linter.unusedVariables false
set_option linter.unusedSimpArgs false

/-- Operations that change nothing in the heap. -/
def quietOp : Op → Bool
  | .move _ | .assign _ | .pick .. | .build .. | .load .. | .fieldAddr .. | .field .. | .indexAddr .. | .slice .. | .extract .. | .nilCheck _ | .binOp .. | .unOp .. | .convert .. => true
  | .call c => match c.callee with
    | .builtin .len => true
    | .builtin .max => true
    | _ => false
  | _ => false

/-- Operations that neither change nor read the heap. -/
def blindOp : Op → Bool
  | .move _ | .assign _ | .pick .. | .build .. | .field .. | .slice .. | .extract .. | .binOp .. | .unOp .. | .convert .. => true
  | .call c => match c.callee with
    | .builtin .len => true
    | .builtin .max => true
    | _ => false
  | _ => false

section
variable {T : Nat → Option TI} {G : Nat → Option FM} {hp hp' : Hp} {m : Nat} {sl sl' : Nat → A}

theorem map_pure {x : Option A} {e : Eff} (h : x.map Eff.pure = some e) : e.ups = [] ∧ e.rd = [] := by
  cases x with
  | none => simp at h
  | some v => simp at h; subst h; exact ⟨rfl, rfl⟩

theorem some_pure {v : A} {e : Eff} (h : some (Eff.pure v) = some e) : e.ups = [] ∧ e.rd = [] := by
  cases h; exact ⟨rfl, rfl⟩

theorem sliceA_blind {tsz : Option Nat} {x : A} {lo hi : Option A} {e : Eff} (h : sliceA tsz x lo hi = some e) : e.ups = [] ∧ e.rd = [] := by
  unfold sliceA at h
  split at h
  · split at h
    · split at h
      · exact some_pure h
      · cases h
    · cases h
  · split at h
    · split at h
      · exact some_pure h
      · cases h
    · cases h
  · cases h

theorem eff_blind {ty : Nat} {o : Op} {e : Eff} (hq : blindOp o = true) (he : eff T G m ty o sl hp = some e) : e.ups = [] ∧ e.rd = [] := by
  cases o with
  | move x => exact some_pure he
  | assign x => exact some_pure he
  | pick c a b =>
    simp only [eff] at he
    split at he
    · exact some_pure he
    · cases he
  | build t ps =>
    simp only [eff] at he
    split at he
    · split at he
      · rw [Option.map_eq_some_iff] at he
        obtain ⟨v, _, rfl⟩ := he
        exact ⟨rfl, rfl⟩
      · cases he
    · cases he
  | field s x f =>
    simp only [eff] at he
    split at he
    · split at he
      · split at he
        · exact map_pure he
        · cases he
      · cases he
    · cases he
  | slice t x lo hi mx =>
    simp only [eff] at he
    split at he
    · exact sliceA_blind he
    · cases he
  | extract t ix =>
    simp only [eff] at he
    split at he
    · exact map_pure he
    · cases he
  | binOp => simp only [eff] at he; exact map_pure he
  | unOp => simp only [eff] at he; exact map_pure he
  | convert =>
    simp only [eff] at he
    split at he
    · exact some_pure he
    · cases he
  | call c =>
    simp only [blindOp] at hq
    simp only [eff] at he
    split at he
    · split at he
      · split at he
        · exact map_pure he
        · cases he
      · cases he
    · split at he
      · split at he
        · exact some_pure he
        · cases he
      · cases he
    · rename_i hc; rw [hc] at hq; cases hq
    · rename_i hc; rw [hc] at hq; cases hq
    · cases he
  | _ => simp [blindOp] at hq

theorem eff_quiet {ty : Nat} {o : Op} {e : Eff} (hq : quietOp o = true) (he : eff T G m ty o sl hp = some e) : e.ups = [] := by
  cases o with
  | load t a =>
    simp only [eff] at he
    split at he
    · unfold loadA at he
      split at he
      · split at he
        · split at he
          · rw [Option.map_eq_some_iff] at he
            obtain ⟨v, _, rfl⟩ := he
            rfl
          · cases he
        · cases he
      · split at he
        · exact (map_pure he).1
        · cases he
      · cases he
    · cases he
  | fieldAddr s x f =>
    simp only [eff] at he
    split at he
    · split at he
      · split at he
        · cases he; rfl
        · cases he
      · exact (some_pure he).1
      · cases he
    · cases he
  | indexAddr t x ix =>
    simp only [eff] at he
    unfold indexAddrA at he
    split at he
    · split at he
      · split at he
        · cases he; rfl
        · cases he
      · cases he
    · split at he
      · exact (some_pure he).1
      · cases he
    · split at he
      · split at he
        · cases he; rfl
        · cases he
      · cases he
    · cases he
  | nilCheck x =>
    simp only [eff] at he
    split at he
    · split at he
      · cases he; rfl
      · cases he
    · exact (some_pure he).1
    · cases he
  | call c => exact (eff_blind (o := .call c) (by simpa [quietOp, blindOp] using hq) he).1
  | _ => first | exact (eff_blind (by rfl) he).1 | (simp [quietOp] at hq)

theorem opA_quiet {ops : List Oper} {n i : Nat} {o : Oper} {e : Eff} (hq : quietOp o.op = true) (he : opA T G ops n i o sl hp = some e) : e.ups = [] := by
  unfold opA at he
  split at he
  · exact eff_quiet hq he
  · cases he; rfl
  · cases he

theorem opA_blind {ops : List Oper} {n i : Nat} {o : Oper} {e : Eff} (hq : blindOp o.op = true) (he : opA T G ops n i o sl hp = some e) : e.ups = [] ∧ e.rd = [] := by
  unfold opA at he
  split at he
  · exact eff_blind hq he
  · cases he; exact ⟨rfl, rfl⟩
  · cases he

end

/-- i comes before j. -/
def ordB (ops : Array Oper) : Nat → Nat → Nat → Bool
  | 0, _, _ => false
  | f + 1, i, j => match ops[j]? with
    | some o => o.after.any fun e => Region.binds .any e && decide (e.on < j) && (e.on == i || ordB ops f i e.on)
    | none => false

def coverB (DT : List (Nat × Nat)) (ops : Array Oper) (i j : Nat) : Bool := match ops[i]?, ops[j]? with
  | some oi, some oj => quietOp oi.op || blindOp oj.op || DT.contains (i, j)
  | _, _ => true

/-- What is checked of a region that draws. -/
def chkD (DT : List (Nat × Nat)) (ops : Array Oper) : Bool :=
  (List.range ops.size).all fun j => match ops[j]? with
    | some oj => (oj.after.all fun e => !Region.binds .any e || decide (e.on < j)) &&
      (List.range j).all fun i => match ops[i]? with
        | some oi => ordB ops ops.size i j || (oi.apart ops oj && coverB DT ops i j && coverB DT ops j i)
        | none => true
    | none => true

structure ChkD (DT : List (Nat × Nat)) (ops : Array Oper) : Prop where
  edge : ∀ (j : Nat) oj, ops[j]? = some oj → ∀ e ∈ oj.after, Region.binds .any e = true → e.on < j
  pair : ∀ (i j : Nat) oi oj, i < j → ops[i]? = some oi → ops[j]? = some oj → ordB ops ops.size i j = true ∨ (oi.apart ops oj = true ∧ coverB DT ops i j = true ∧ coverB DT ops j i = true)

theorem chkD_spec {DT : List (Nat × Nat)} {ops : Array Oper} (h : chkD DT ops = true) : ChkD DT ops := by
  unfold chkD at h
  simp only [List.all_eq_true, List.mem_range] at h
  constructor
  · intro j oj hj e he hb
    have := h j (Array.getElem?_eq_some_iff.1 hj).1
    rw [hj] at this
    simp only [Bool.and_eq_true] at this
    have h1 := Array.all_eq_true_iff_forall_mem.1 this.1 e he
    simpa [hb] using h1
  · intro i j oi oj hij hi hj
    have := h j (Array.getElem?_eq_some_iff.1 hj).1
    rw [hj] at this
    simp only [Bool.and_eq_true, List.all_eq_true, List.mem_range] at this
    have h1 := this.2 i hij
    rw [hi] at h1
    simp only [Bool.or_eq_true, Bool.and_eq_true] at h1
    rcases h1 with h1 | h1
    · exact .inl h1
    · exact .inr ⟨h1.1.1, h1.1.2, h1.2⟩

/-- What is before something that is listed is listed. -/
def Down (ops : Array Oper) (listed : Array Bool) : Prop := ∀ (j : Nat) oj, listed.getD j false = true → ops[j]? = some oj → ∀ e ∈ oj.after, Region.binds .any e = true → listed.getD e.on false = true

theorem down_ord {ops : Array Oper} {listed : Array Bool} (hd : Down ops listed) : ∀ (f i j : Nat), ordB ops f i j = true → (∀ oj, ops[j]? = some oj → ∀ e ∈ oj.after, Region.binds .any e = true → listed.getD e.on false = true) → listed.getD i false = true
  | 0, _, _, h, _ => by simp [ordB] at h
  | f + 1, i, j, h, hj => by
    unfold ordB at h
    split at h
    · rename_i o ho
      rw [Array.any_eq_true'] at h
      obtain ⟨e, he, hb⟩ := h
      simp only [Bool.and_eq_true, Bool.or_eq_true, beq_iff_eq] at hb
      have h1 := hj o ho e he hb.1.1
      rcases hb.2 with h2 | h2
      · rw [← h2]; exact h1
      · exact down_ord hd f i e.on h2 fun oj hoj => hd e.on oj h1 hoj
    · cases h

theorem foldE_none {S : Nat → Bool} : ∀ (xs : List (Option Nat × Eff)) (i : Nat) (s : SH), (∀ j, i ≤ j → S j = false) → foldE S i xs s = s
  | [], _, _, _ => rfl
  | x :: xs, i, s, h => by
    unfold foldE
    rw [h i (Nat.le_refl _)]
    exact foldE_none xs (i + 1) _ fun j hj => h j (by omega)

theorem foldE_ext {S S' : Nat → Bool} : ∀ (xs : List (Option Nat × Eff)) (i : Nat) (s : SH), (∀ j, j < xs.length → S (i + j) = S' (i + j)) → foldE S i xs s = foldE S' i xs s
  | [], _, _, _ => rfl
  | x :: xs, i, s, h => by
    unfold foldE
    have h0 := h 0 (by simp)
    rw [Nat.add_zero] at h0
    rw [h0]
    exact foldE_ext xs (i + 1) _ fun j hj => by
      have := h (j + 1) (by simpa using hj)
      rwa [show i + (j + 1) = i + 1 + j from by omega] at this

theorem runOps_effs {T : Nat → Option TI} {G : Nat → Option FM} {ops : List Oper} {n : Nat} : ∀ (rest : List Oper) (i : Nat) (sl : Nat → A) (hp : Hp) (log : Log) {sl' : Nat → A} {hp' : Hp} {log' : Log}, runOps T G ops n i rest sl hp log = some (sl', hp', log') →
    ∃ xs : List (Option Nat × Eff), xs.length = rest.length ∧ (∀ (k : Nat) o, rest[k]? = some o → ∃ e, xs[k]? = some (o.dst, e) ∧ opA T G ops n (i + k) o (foldE (fun q => decide (q < i + k)) i xs (sl, hp)).1 (foldE (fun q => decide (q < i + k)) i xs (sl, hp)).2 = some e ∧
      logAt log' (i + k) = (e.ups.map (·.1), e.rd)) ∧ (sl', hp') = foldE (fun _ => true) i xs (sl, hp) ∧ ∀ j, j < i → logAt log' j = logAt log j
  | [], i, sl, hp, log, sl', hp', log', h => by
    cases h
    exact ⟨[], rfl, by simp, rfl, fun _ _ => rfl⟩
  | o :: rest, i, sl, hp, log, sl', hp', log', h => by
    unfold runOps at h
    split at h
    · cases h
    · rename_i e he
      obtain ⟨xs, h1, h2, h3, h4⟩ := runOps_effs rest (i + 1) _ _ _ h
      refine ⟨(o.dst, e) :: xs, by simp [h1], fun k o' hk => ?_, ?_, fun j hj => ?_⟩
      · cases k with
        | zero =>
          simp only [List.getElem?_cons_zero, Option.some.injEq] at hk
          subst hk
          refine ⟨e, by simp, ?_, ?_⟩
          · rw [foldE_none _ _ _ fun j hj => by simp; omega]
            simpa using he
          · rw [h4 (i + 0) (by omega)]
            simp [logAt]
        | succ k =>
          obtain ⟨e', g1, g2, g3⟩ := h2 k o' (by simpa using hk)
          have hi : i + (k + 1) = i + 1 + k := by omega
          refine ⟨e', by simpa using g1, ?_, by rw [hi]; exact g3⟩
          rw [hi]
          unfold foldE
          rw [if_pos (by simp; omega)]
          exact g2
      · rw [h3]
        simp [foldE, appE]
      · rw [h4 j (by omega)]
        simp [logAt, show ¬ i = j from by omega]

theorem disjB_spec {xs ys : List Id} (h : disjB xs ys = true) {x : Id} (hx : x ∈ xs) (hy : x ∈ ys) : False := by
  unfold disjB at h
  simp only [List.all_eq_true] at h
  have := h x hx x hy
  simp at this

end Go.TM
