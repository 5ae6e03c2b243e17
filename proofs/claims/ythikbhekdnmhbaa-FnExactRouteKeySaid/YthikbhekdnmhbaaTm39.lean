/- The tree machine, 39: between a function that is walked by hand and its contract. -/
import Derived.Test.YthikbhekdnmhbaaTm38
import Derived.Deep.Draws
namespace Go.TM
set_option linter.unusedVariables false
set_option linter.unusedSimpArgs false

/-- All that was there is as it was; what is new is not frozen. -/
structure Kept (w w' : World) : Prop where
  os : w'.os = w.os
  tape : w'.tape = w.tape
  output : w'.output = w.output
  size : w.heap.size ≤ w'.heap.size
  old : ∀ b, b < w.heap.size → w'.heap[b]? = w.heap[b]?
  fresh : ∀ b c e f, w.heap.size ≤ b → w'.heap[b]? = some (.cells c e f) → f = (0, 0)

theorem Kept.refl (w : World) : Kept w w := ⟨rfl, rfl, rfl, Nat.le_refl _, fun _ _ => rfl, fun b c e f hb h => by
  rw [Array.getElem?_eq_none hb] at h; cases h⟩

theorem Kept.trans {w w' w'' : World} (h : Kept w w') (h' : Kept w' w'') : Kept w w'' := by
  refine ⟨h'.os.trans h.os, h'.tape.trans h.tape, h'.output.trans h.output, Nat.le_trans h.size h'.size, fun b hb => ?_, fun b c e f hb hc => ?_⟩
  · rw [h'.old b (Nat.lt_of_lt_of_le hb h.size), h.old b hb]
  · by_cases hlt : b < w'.heap.size
    · rw [h'.old b hlt] at hc
      exact h.fresh b c e f hb hc
    · exact h'.fresh b c e f (by omega) hc

theorem Kept.drewN (w : World) (q : Nat) : Kept w (w.drewN q) := ⟨rfl, rfl, rfl, Nat.le_refl _, fun _ _ => rfl, fun b c e f hb h => by
  have h1 : (w.drewN q).heap[b]? = none := Array.getElem?_eq_none hb
  rw [h1] at h; cases h⟩

theorem Kept.alloc (w : World) (c : Array Value) (t : TypeId) : Kept w (w.alloc (.cells c t)) := by
  have e : (w.alloc (.cells c t)).heap = w.heap.push (.cells c t) := rfl
  refine ⟨rfl, rfl, rfl, by rw [e]; simp, fun b hb => ?_, fun b c' e' f hb h => ?_⟩
  · rw [e, Array.getElem?_push, if_neg (by omega)]
  · rw [e, Array.getElem?_push] at h
    split at h
    · cases h; rfl
    · rw [Array.getElem?_eq_none hb] at h; cases h

theorem Kept.cell {w w' : World} (h : Kept w w') {a : Addr} {v : Value} (hc : w.cell? a = some v) : w'.cell? a = some v := by
  have hb := World.block_lt_of_cell? _ _ hc
  rw [World.cell?_of_block (h.old _ hb)]
  exact hc

section
variable {P : Program} {w w' : World}

/-- What a scalar is in the model of the language. -/
def valA : A → Value
  | .i k n => .int k n
  | .b v => .bool v
  | _ => undef

theorem top_hrel (M : Model) (args : List A) (hk : M.kinds = args.map fun _ => .ro) : @HRel topU w (topL w) lt3 (initHp 0 0 M.kinds args) w (topL w) := by
  rw [hk]
  refine @HRel.mk topU _ _ _ _ _ _ (fun id r hr => ?_) (fun b b' id p hb hb' => ?_) (fun b hb => ?_) (fun b id p hb => ?_) (fun id r hr => ?_) (fun b hb => ⟨hb, rfl⟩) (Nat.le_refl _) rfl rfl rfl (fun _ _ => trivial) (fun b c e f hb hc => ?_)
  · rw [initHp_ro] at hr; cases hr
  · simp only [topL] at hb; split at hb <;> cases hb
  · exact if_neg (by omega)
  · simp only [topL] at hb; split at hb <;> cases hb
  · rw [initHp_ro] at hr; cases hr
  · exfalso
    apply hb
    exact if_pos (Array.getElem?_eq_some_iff.1 hc).1

/-- A call that reads and gives a scalar, from a walk by hand. -/
theorem model_calls {f : Nat} {M : Model} (hC : Contract P f M) {args : List A} {us : List Value} (hk : M.kinds = args.map fun _ => .ro) (hl : args.length = us.length) (hargs : ∀ (j : Nat) a u, args[j]? = some a → us[j]? = some u → ArgOk w a u)
    {c : A} (hc : isScalar c = true) (hM : M.fn args = some (c, [])) : Calls P f us.toArray w fun e w' => e = .returned (valA c) ∧ Kept w w' := by
  refine (hC.calls topU w (topL w) us.toArray args c [] hM (top_hrel M args hk) (fun j => ?_) (by simpa using hl.symm)).mono fun e w' hp => ?_
  · have := initSl_ro (w := w) args us 0 (V := lt3) (hp := initHp 0 0 M.kinds args) hl hargs j
    rw [hk]
    rw [hk] at this
    simpa [Array.getD_eq_getD_getElem?] using this
  · obtain ⟨v, L', rfl, h1, h2, _⟩ := hp
    letI : Use := topU
    have hv : v = valA c := by
      cases c <;> simp only [isScalar] at hc <;> first | cases hc | skip
      · simp only [ResOwn, Res1, Own] at h2
        exact h2.2.1
      · simp only [ResOwn, Res1, Own] at h2
        exact h2.2
    refine ⟨by rw [hv], h1.os, h1.tape, h1.output, h1.size, fun b hb => (h1.prot b (if_pos hb)).2, fun b c' e f hb hc' => ?_⟩
    exact h1.frz b c' e f (by simp only [topL]; rw [if_neg (by omega)]; simp) hc'

/-- From a walk by hand to the contract: a slice of numbers and a number, read only; a number is given. -/
theorem contract_of_kept {f : Nat} {C : List Int → Int → Prop} {g : List Int → Int → Int} {F : List Int → Int → Out1} (hF : ∀ xs k r outs, F xs k = some (r, outs) → C xs k ∧ r = eI (g xs k) ∧ outs = [])
    (hw : ∀ xs k, C xs k → (Lit.int .i64 (g xs k)).wf = true)
    (h : ∀ (w : World) (Q : Nat → Prop) (xs : List Int) (k : Int) (u : Value), C xs k → (∀ b, Q b → b < w.heap.size) → Imm w Q (eIs false xs) u → (Lit.int .i64 k).wf = true →
      Calls P f #[u, .int .i64 k] w fun e w' => e = .returned (.int .i64 (g xs k)) ∧ Kept w w') : Contract P f (M2 .ro .ro true (cIs false) cI F) := by
  refine ⟨fun B w L vals args r outs hM hh hs hsz => ?_, fun _ args r outs hM => ?_⟩
  · obtain ⟨x, y, rfl⟩ : ∃ x y, args = [x, y] := by
      match args, hM with
      | [x, y], _ => exact ⟨x, y, rfl⟩
      | [], h => simp [M2] at h
      | [_], h => simp [M2] at h
      | _ :: _ :: _ :: _, h => simp [M2] at h
    rw [M2_fn] at hM
    simp only [Option.bind_eq_some_iff] at hM
    obtain ⟨xs, hx, k, hy, hM⟩ := hM
    obtain rfl := (cIs false).ed _ _ hx
    obtain rfl := cI.ed _ _ hy
    obtain ⟨hC, rfl, rfl⟩ := hF _ _ _ _ hM
    letI := B
    have h0 := hs 0
    have h1 := hs 1
    obtain ⟨u, v, rfl⟩ : ∃ u v, vals = #[u, v] := by
      have hl : vals.toList.length = 2 := by simpa using hsz
      obtain ⟨l, rfl⟩ : ∃ l : List Value, vals = l.toArray := ⟨vals.toList, by simp⟩
      match l, hl with
      | [u, v], _ => exact ⟨u, v, rfl⟩
    have h0' : Imm w (isProt L) (eIs false xs) u := by
      have h2 : @Rep B lt3 w L (initHp 0 0 [.ro, .ro] [eIs false xs, eI k]) (eIs false xs) u := h0
      simpa only [Rep] using h2
    have h1' : v = .int .i64 k ∧ (Lit.int .i64 k).wf = true := by
      simpa [initSl, M2, immV, imm1, cI, Rep] using h1
    obtain ⟨rfl, hk⟩ := h1'
    have hQ : ∀ b, isProt L b → b < w.heap.size := by
      intro b hb
      by_cases hlt : b < w.heap.size
      · exact hlt
      · have := hh.free b (by omega)
        have h1 := hb.1
        rw [this] at h1
        cases h1
    refine (h w (isProt L) xs k u hC hQ h0' hk).mono fun e w' hp => ?_
    obtain ⟨rfl, hkept⟩ := hp
    refine ⟨_, fun b => if b < w.heap.size then L b else .free, rfl, ?_, ?_, fun t b ht => ?_⟩
    · refine ⟨fun id r hr => ?_, fun b b' id p hb hb' => ?_, fun b hb => ?_, fun _ _ _ _ => trivial, fun _ _ _ => trivial, fun b hb => ?_, hkept.size, hkept.os, hkept.tape, hkept.output, hh.use, fun b c e f hb hc => ?_⟩
      · exfalso
        simp [shsOf, M2, ioHp] at hr
      · split at hb
        · split at hb'
          · exact hh.inj b b' id p hb hb'
          · cases hb'
        · cases hb
      · split
        · exact hh.free b (Nat.le_trans hkept.size hb)
        · rfl
      · have hlt : b < w.heap.size := by
          by_cases hlt : b < w.heap.size
          · exact hlt
          · rw [hh.free b (by omega)] at hb; cases hb
        exact ⟨by rw [if_pos hlt]; exact hb, hkept.old b hlt⟩
      · by_cases hlt : b < w.heap.size
        · rw [hkept.old b hlt] at hc
          exact hh.frz b c e f hb hc
        · exact hkept.fresh b c e f (by omega) hc
    · simp only [ResOwn, Res1, Own]
      exact ⟨by first | trivial | rfl, by first | rfl | trivial, hw _ _ hC⟩
    · simp [shsOf, M2] at ht
  · obtain ⟨x, y, rfl⟩ : ∃ x y, args = [x, y] := by
      match args, hM with
      | [x, y], _ => exact ⟨x, y, rfl⟩
      | [], h => simp [M2] at h
      | [_], h => simp [M2] at h
      | _ :: _ :: _ :: _, h => simp [M2] at h
    rw [M2_fn] at hM
    simp only [Option.bind_eq_some_iff] at hM
    obtain ⟨xs, hx, k, hy, hM⟩ := hM
    obtain ⟨hC, rfl, rfl⟩ := hF _ _ _ _ hM
    exact ⟨rfl, rfl⟩
end

/-! ### A root is handed back -/

def finP (id : Id) : Option Root → Option (A × List (Id × Option Root))
  | some ⟨_, 1, cs, _⟩ => some (.ep cs, [(id, none)])
  | _ => none
theorem finP_s (id : Id) (sz : Nat) (cs : List A) (v : Nat → Nat) : finP id (some ⟨sz, 1, cs, v⟩) = some (.ep cs, [(id, none)]) := rfl
theorem finV_p {hp : Hp} (id : Id) (v : Nat) : finV hp [.ptr id [] v 0] = finP id (hp id) := by
  simp only [finV]
  cases h : hp id with
  | none => rfl
  | some r =>
    obtain ⟨sz, len, cs, ver⟩ := r
    by_cases h1 : len = 1
    · subst h1; rfl
    · simp only [h1, and_false, if_false, finP]
      split
      · rename_i e
        cases e
        exact (h1 rfl).elim
      · rfl
attribute [go_sem] finV_p finP_s

/-! ### Lists that are written out -/

theorem cIs_lit {o : Bool} {n : Nat} {a : Int} {cs : List A} : (cIs o).d (.s o 1 n (.i .i64 a :: cs)) = gi (n = cs.length + 1) (dL dI (.i .i64 a :: cs)) := by
  show (if o = o ∧ 1 = 1 ∧ n = (A.i .i64 a :: cs).length then dL dI (.i .i64 a :: cs) else none) = _
  simp only [gi, true_and, List.length_cons]
theorem dLI_c (a : Int) (cs : List A) : dL dI (.i .i64 a :: cs) = (dL dI cs).map (a :: ·) := by
  simp only [dL, dI]
  cases dL dI cs <;> rfl
theorem dLI_n : dL dI [] = some [] := rfl
attribute [go_sem] cIs_lit dLI_c dLI_n

/-! ### What is used up -/

theorem rootRef_s (id : Id) (sz len : Nat) (cs : List A) : rootRef id (.s true sz len cs) = .ref id [] 0 0 sz len := rfl
theorem rootOf_s (sz len : Nat) (cs : List A) : rootOf (.s true sz len cs) = some (newRoot sz len cs) := rfl
attribute [go_sem] rootRef_s rootOf_s Prod.mk.injEq
end Go.TM
