/- Contracts, 8: the reader of the drawn arguments. -/
import Derived.Test.YthikbhekdnmhbaaF7
namespace Go.TM
open Go.Proofs
set_option linter.unusedVariables false
set_option linter.unusedSimpArgs false
set_option maxRecDepth 100000

structure Rd where
  bs : List Int
  p : Int

def cRd : Cod Rd where
  e t := .agg [eBs false t.bs, eI t.p]
  d a := ((c2 (cS false c8) cI).d a).map fun x => ⟨x.1, x.2⟩
  de t := by rw [show (.agg [eBs false t.bs, eI t.p] : A) = (c2 (cS false c8) cI).e (t.bs, t.p) from rfl, (c2 (cS false c8) cI).de]; rfl
  ed a t h := by
    rw [Option.map_eq_some_iff] at h
    obtain ⟨x, h1, h2⟩ := h
    rw [(c2 (cS false c8) cI).ed _ _ h1, ← h2]; rfl
theorem cRd_e (t : Rd) : cRd.e t = .agg [.s false 1 t.bs.length (t.bs.map e8), .i .i64 t.p] := rfl
theorem cRd_d {n : Nat} {bs : List Int} {p : Int} (h : n = bs.length) : cRd.d (.agg [.s false 1 n (bs.map e8), .i .i64 p]) = some ⟨bs, p⟩ := by
  subst h
  exact cRd.de ⟨bs, p⟩
attribute [go_sem] cRd_e cRd_d

/-- Bytes of a reader. -/
def Bs (bs : List Int) : Prop := bs.length ≤ 2000 ∧ ∀ i, 0 ≤ bs.getD i 0 ∧ bs.getD i 0 ≤ 255

noncomputable instance (bs : List Int) : Decidable (Bs bs) := Classical.propDecidable _

/-- What lies behind the code's bytes. -/
def mixV (bs : List Int) (p : Nat) : Int := bs.getD (p % bs.length) 0 * 131 + bs.getD ((p * 7 + 3) % bs.length) 0 * 1117 + p * 29 + (p / bs.length : Nat) * 53

def pickV (bs : List Int) (p : Int) (n : Int) : Int :=
  if n < 1 then 0 else if bs.length = 0 then 0 else
  if p < bs.length then (bs.getD p.toNat 0).tmod n else (ixor (mixV bs p.toNat) ((mixV bs p.toNat).tdiv 64)).tmod n

theorem ixor_nat {x y : Nat} (hx : x < 4611686018427387904) (hy : y < 4611686018427387904) : ixor x y = (x ^^^ y : Nat) := by
  unfold ixor
  have h1 : x ^^^ y < 2 ^ 62 := Nat.xor_lt_two_pow (by omega) (by omega)
  have hb : IntKind.i64.bits = 64 := rfl
  have e : (BitVec.ofInt IntKind.i64.bits (x : Int) ^^^ BitVec.ofInt IntKind.i64.bits (y : Int)).toNat = x ^^^ y := by
    rw [BitVec.toNat_xor, BitVec.toNat_ofInt, BitVec.toNat_ofInt, hb]
    rw [show ((x : Int) % ((2 ^ 64 : Nat) : Int)).toNat = x from by omega, show ((y : Int) % ((2 ^ 64 : Nat) : Int)).toNat = y from by omega]
  rw [e]
  exact wrap_id ⟨by omega, by omega⟩

theorem mixV_nn {bs : List Int} (h : Bs bs) {p : Nat} (hp : p ≤ 1000000) : 0 ≤ mixV bs p ∧ mixV bs p ≤ 100000000 := by
  unfold mixV
  have h1 := h.2 (p % bs.length)
  have h2 := h.2 ((p * 7 + 3) % bs.length)
  have h3 : p / bs.length ≤ p := Nat.div_le_self _ _
  generalize p / bs.length = q at h3 ⊢
  omega

theorem pickV_nn {bs : List Int} (h : Bs bs) {p n : Int} (hp0 : 0 ≤ p) (hp : p ≤ 1000000) : 0 ≤ pickV bs p n := by
  unfold pickV
  split
  · exact Int.le_refl _
  · split
    · exact Int.le_refl _
    · split
      · exact Int.tmod_nonneg _ (h.2 _).1
      · have hm := mixV_nn h (p := p.toNat) (by omega)
        obtain ⟨m, hm'⟩ : ∃ m : Nat, mixV bs p.toNat = m := ⟨(mixV bs p.toNat).toNat, by omega⟩
        rw [hm'] at hm ⊢
        have : ((m : Int).tdiv 64) = ((m / 64 : Nat) : Int) := rfl
        rw [this, ixor_nat (by omega) (by omega)]
        exact Int.tmod_nonneg _ (by omega)

theorem pickV_lt {bs : List Int} (h : Bs bs) {p n : Int} (hn : 1 ≤ n) : pickV bs p n < n := by
  unfold pickV
  split
  · omega
  · split
    · omega
    · split <;> exact Int.tmod_lt_of_pos _ (by omega)

noncomputable def mPick : Model := M2 .io .ro false cRd cI fun r n => gd (Bs r.bs ∧ 0 ≤ r.p ∧ r.p ≤ 100000 ∧ n ≤ 1000000) (eI (pickV r.bs r.p n), [[eBs false r.bs, eI (r.p + 1)]])
noncomputable def mOne : Model := M2 .io .mv false cRd (cIs true) fun r xs => gd (Bs r.bs ∧ 0 ≤ r.p ∧ r.p ≤ 100000 ∧ 1 ≤ xs.length ∧ xs.length ≤ 100) (eI (xs.getD (pickV r.bs r.p xs.length).toNat 0), [[eBs false r.bs, eI (r.p + 1)]])

theorem tdiv_nn {x : Int} (h : 0 ≤ x) : x.tdiv 64 = x / 64 := Int.tdiv_eq_ediv_of_nonneg h
theorem pickV_1 {bs : List Int} {p n : Int} (h : n < 1) : pickV bs p n = 0 := by simp [pickV, h]
theorem pickV_2 {bs : List Int} {p n : Int} (h : bs.length = 0) : pickV bs p n = 0 := by simp [pickV, h]
theorem pickV_3 {bs : List Int} {p n : Int} (h1 : ¬ n < 1) (h2 : bs.length ≠ 0) (h3 : p < bs.length) : pickV bs p n = (bs.getD p.toNat 0).tmod n := by
  unfold pickV; rw [if_neg h1, if_neg h2, if_pos h3]
theorem pickV_4 {bs : List Int} {p n : Int} (h1 : ¬ n < 1) (h2 : bs.length ≠ 0) (h3 : ¬ p < bs.length) : pickV bs p n = (ixor (mixV bs p.toNat) ((mixV bs p.toNat).tdiv 64)).tmod n := by
  unfold pickV; rw [if_neg h1, if_neg h2, if_neg h3]

theorem does_pick {G : Nat → Option FM}  : Does T G (fun _ => []) Try.f81 mPick := by
  refine does2 (rs := [.tmp 4]) rfl rfl fun r n ro h => ?_
  obtain ⟨⟨hB, hp0, hp1, hn⟩, rfl⟩ := gd_some h
  refine ⟨fun hc => (by cases hc), ?_⟩
  simp (config := {maxSteps := 1000000}) (disch := omega) only [go_sem, ↓reduceIte, Nat.reduceEqDiff, Nat.reduceAdd, Nat.reduceMul, Nat.reduceSub, Nat.reduceLeDiff, Nat.reduceLT, Int.reduceToNat, Int.reduceLE, Int.reduceLT, Int.reduceNeg]
  (first | refine runKS_split (fun h1 => ?_) (fun h1 => ?_) | refine cond_split (fun h1 => ?_) (fun h1 => ?_) | refine runK_split (fun h1 => ?_) (fun h1 => ?_))
  · simp (config := {maxSteps := 1000000}) (disch := omega) only [go_sem, ↓reduceIte, Nat.reduceEqDiff, Nat.reduceAdd, Nat.reduceMul, Nat.reduceSub, Nat.reduceLeDiff, Nat.reduceLT, Int.reduceToNat, Int.reduceLE, Int.reduceLT, Int.reduceNeg, h1]
    rw [pickV_1 (of_decide_eq_true h1)]
  · have h1' := of_decide_eq_false h1
    simp (config := {maxSteps := 1000000}) (disch := omega) only [go_sem, ↓reduceIte, Nat.reduceEqDiff, Nat.reduceAdd, Nat.reduceMul, Nat.reduceSub, Nat.reduceLeDiff, Nat.reduceLT, Int.reduceToNat, Int.reduceLE, Int.reduceLT, Int.reduceNeg, h1]
    (first | refine runKS_split (fun h2 => ?_) (fun h2 => ?_) | refine cond_split (fun h2 => ?_) (fun h2 => ?_) | refine runK_split (fun h2 => ?_) (fun h2 => ?_))
    · simp (config := {maxSteps := 1000000}) (disch := omega) only [go_sem, ↓reduceIte, Nat.reduceEqDiff, Nat.reduceAdd, Nat.reduceMul, Nat.reduceSub, Nat.reduceLeDiff, Nat.reduceLT, Int.reduceToNat, Int.reduceLE, Int.reduceLT, Int.reduceNeg, h1, h2]
      rw [pickV_2 (by have := of_decide_eq_true h2; omega)]
    · have h2' := of_decide_eq_false h2
      simp (config := {maxSteps := 1000000}) (disch := omega) only [go_sem, ↓reduceIte, Nat.reduceEqDiff, Nat.reduceAdd, Nat.reduceMul, Nat.reduceSub, Nat.reduceLeDiff, Nat.reduceLT, Int.reduceToNat, Int.reduceLE, Int.reduceLT, Int.reduceNeg, h1, h2, Int.add_sub_cancel]
      (first | refine runKS_split (fun h3 => ?_) (fun h3 => ?_) | refine cond_split (fun h3 => ?_) (fun h3 => ?_) | refine runK_split (fun h3 => ?_) (fun h3 => ?_))
      · have h3' := of_decide_eq_true h3
        have hb := hB.2 r.p.toNat
        simp (config := {maxSteps := 1000000}) (disch := omega) only [go_sem, ↓reduceIte, Nat.reduceEqDiff, Nat.reduceAdd, Nat.reduceMul, Nat.reduceSub, Nat.reduceLeDiff, Nat.reduceLT, Int.reduceToNat, Int.reduceLE, Int.reduceLT, Int.reduceNeg, h1, h2, h3, Int.add_sub_cancel]
        rw [pickV_3 h1' (by omega) h3']
      · have h3' := of_decide_eq_false h3
        obtain ⟨q, hq⟩ : ∃ q : Nat, r.p = q := ⟨r.p.toNat, by omega⟩
        have e1 : r.p.tmod r.bs.length = ((q % r.bs.length : Nat) : Int) := by rw [hq]; rfl
        have e2 : (r.p * 7 + 3).tmod r.bs.length = (((q * 7 + 3) % r.bs.length : Nat) : Int) := by rw [hq, show ((q : Int) * 7 + 3) = ((q * 7 + 3 : Nat) : Int) from by omega]; rfl
        have e3 : r.p.tdiv r.bs.length = ((q / r.bs.length : Nat) : Int) := by rw [hq]; rfl
        have l1 : q % r.bs.length < r.bs.length := Nat.mod_lt _ (by omega)
        have l2 : (q * 7 + 3) % r.bs.length < r.bs.length := Nat.mod_lt _ (by omega)
        have l3 : q / r.bs.length ≤ q := Nat.div_le_self _ _
        have hb1 := hB.2 (q % r.bs.length)
        have hb2 := hB.2 ((q * 7 + 3) % r.bs.length)
        rw [pickV_4 h1' (by omega) h3', show r.p.toNat = q from by omega]
        unfold mixV
        generalize q % r.bs.length = i1 at e1 l1 hb1 ⊢
        generalize (q * 7 + 3) % r.bs.length = i2 at e2 l2 hb2 ⊢
        generalize q / r.bs.length = i3 at e3 l3 ⊢
        simp (config := {maxSteps := 1000000}) (disch := omega) only [go_sem, ↓reduceIte, Nat.reduceEqDiff, Nat.reduceAdd, Nat.reduceMul, Nat.reduceSub, Nat.reduceLeDiff, Nat.reduceLT, Int.reduceToNat, Int.reduceLE, Int.reduceLT, Int.reduceNeg, h1, h2, h3, Int.add_sub_cancel, e1, e2, e3, tdiv_nn]
        rw [hq]
theorem fo_pick : FnOk Try.prog 81 := fnOk_of Try.func81 (by kernel_rfl)
theorem c_pick : Contract Try.prog 81 mPick :=
  contract_of_does (DT := fun _ => []) Try.checked.mixed tabOk gok_nil Try.func81 rfl (by kernel_rfl) (does_pick )


theorem does_one {G : Nat → Option FM} (h_pick : G 81 = some (.model mPick)) : Does T G (fun _ => []) Try.f113 mOne := by
  refine does2 (rs := [.tmp 4]) rfl rfl fun r xs ro h => ?_
  obtain ⟨⟨hB, hp0, hp1, hl1, hl2⟩, rfl⟩ := gd_some h
  have a1 := pickV_nn hB hp0 (by omega) (n := xs.length)
  have a2 := pickV_lt hB (p := r.p) (n := xs.length) (by omega)
  refine ⟨fun hc => (by cases hc), ?_⟩
  simp (config := {maxSteps := 1000000}) (disch := omega) only [go_sem, ↓reduceIte, Nat.reduceEqDiff, Nat.reduceAdd, Nat.reduceMul, Nat.reduceSub, Nat.reduceLeDiff, Nat.reduceLT, Int.reduceToNat, Int.reduceLE, Int.reduceLT, Int.reduceNeg, h_pick, mPick, hB]
theorem fo_one : FnOk Try.prog 113 := fnOk_of Try.func113 (by kernel_rfl)
theorem c_one : Contract Try.prog 113 mOne :=
  contract_of_does (DT := fun _ => []) Try.checked.mixed tabOk (gok_model fo_pick c_pick gok_nil) Try.func113 rfl (by kernel_rfl) (does_one rfl)


noncomputable def mNewReader : Model := M1 .ro false (cS false c8) fun bs => gd (bs.length ≤ 1099511627776) (.ep [eBs false (bs.take 2000), eI 0], [])

theorem does_newReader {G : Nat → Option FM}  : Does T G (fun _ => []) Try.f80 mNewReader := by
  refine does1 (rs := [.tmp 2]) rfl rfl fun bs ro h => ?_
  obtain ⟨hl, rfl⟩ := gd_some h
  refine ⟨fun hc => (by cases hc), ?_⟩
  simp (config := {maxSteps := 1000000}) (disch := omega) only [go_sem, ↓reduceIte, Nat.reduceEqDiff, Nat.reduceAdd, Nat.reduceMul, Nat.reduceSub, Nat.reduceLeDiff, Nat.reduceLT, Int.reduceToNat, Int.reduceLE, Int.reduceLT, Int.reduceNeg]
  (first | refine runKS_split (fun h => ?_) (fun h => ?_) | refine cond_split (fun h => ?_) (fun h => ?_) | refine runK_split (fun h => ?_) (fun h => ?_))
  · have hlt := of_decide_eq_true h
    simp (config := {maxSteps := 1000000}) (disch := omega) only [go_sem, ↓reduceIte, Nat.reduceEqDiff, Nat.reduceAdd, Nat.reduceMul, Nat.reduceSub, Nat.reduceLeDiff, Nat.reduceLT, Int.reduceToNat, Int.reduceLE, Int.reduceLT, Int.reduceNeg, h, sub_zero, Nat.sub_zero]
    have e : (bs.take 2000).length = 2000 := by rw [List.length_take]; omega
    simp only [eBs, e]
  · have hge := of_decide_eq_false h
    simp (config := {maxSteps := 1000000}) (disch := omega) only [go_sem, ↓reduceIte, Nat.reduceEqDiff, Nat.reduceAdd, Nat.reduceMul, Nat.reduceSub, Nat.reduceLeDiff, Nat.reduceLT, Int.reduceToNat, Int.reduceLE, Int.reduceLT, Int.reduceNeg, h]
    rw [List.take_of_length_le (show bs.length ≤ 2000 by omega)]
theorem fo_newReader : FnOk Try.prog 80 := fnOk_of Try.func80 (by kernel_rfl)
theorem c_newReader : Contract Try.prog 80 mNewReader :=
  contract_of_does (DT := fun _ => []) Try.checked.mixed tabOk gok_nil Try.func80 rfl (by kernel_rfl) (does_newReader )


/-- What 'spoil' does with keys: whether the result is a new list, the list, the reader's place. -/
def spoilV (bs : List Int) (p : Int) (xs : List Int) (n : Int) : Bool × List Int × Int :=
  if pickV bs p 20 = 0 then (true, xs ++ [n], p + 1)
  else if pickV bs p 20 = 1 then (if xs.length = 0 then (true, xs, p + 1) else (false, xs.drop 1, p + 1))
  else if pickV bs p 20 = 2 then (if xs.length = 0 then (true, xs, p + 1) else (true, xs.set (pickV bs (p + 1) xs.length).toNat ([-1, n, 0, 1].getD (pickV bs (p + 1 + 1) 4).toNat 0), p + 1 + 1 + 1))
  else (true, xs, p + 1)

section
variable {bs xs : List Int} {p n : Int}
theorem spoilV_0 (h : pickV bs p 20 = 0) : spoilV bs p xs n = (true, xs ++ [n], p + 1) := by unfold spoilV; rw [if_pos h]
theorem spoilV_1e (h : pickV bs p 20 = 1) (hl : xs.length = 0) : spoilV bs p xs n = (true, xs, p + 1) := by unfold spoilV; rw [if_neg (by omega), if_pos h, if_pos hl]
theorem spoilV_1 (h : pickV bs p 20 = 1) (hl : xs.length ≠ 0) : spoilV bs p xs n = (false, xs.drop 1, p + 1) := by unfold spoilV; rw [if_neg (by omega), if_pos h, if_neg hl]
theorem spoilV_2e (h : pickV bs p 20 = 2) (hl : xs.length = 0) : spoilV bs p xs n = (true, xs, p + 1) := by unfold spoilV; rw [if_neg (by omega), if_neg (by omega), if_pos h, if_pos hl]
theorem spoilV_2 (h : pickV bs p 20 = 2) (hl : xs.length ≠ 0) : spoilV bs p xs n = (true, xs.set (pickV bs (p + 1) xs.length).toNat ([-1, n, 0, 1].getD (pickV bs (p + 1 + 1) 4).toNat 0), p + 1 + 1 + 1) := by
  unfold spoilV; rw [if_neg (by omega), if_neg (by omega), if_pos h, if_neg hl]
theorem spoilV_3 (h0 : pickV bs p 20 ≠ 0) (h1 : pickV bs p 20 ≠ 1) (h2 : pickV bs p 20 ≠ 2) : spoilV bs p xs n = (true, xs, p + 1) := by unfold spoilV; rw [if_neg h0, if_neg h1, if_neg h2]
end

noncomputable def mSpoil : Model := M3 .io .mv .ro false cRd (cIs true) cI fun r xs n => gd (Bs r.bs ∧ 0 ≤ r.p ∧ r.p ≤ 90000 ∧ xs.length ≤ 1000)
  (eIs (spoilV r.bs r.p xs n).1 (spoilV r.bs r.p xs n).2.1, [[eBs false r.bs, eI (spoilV r.bs r.p xs n).2.2]])

theorem does_spoil {G : Nat → Option FM} (h_copyInts : G 105 = some (.model mCopyInts)) (h_pick : G 81 = some (.model mPick)) (h_one : G 113 = some (.model mOne)) : Does T G (fun _ => []) Try.f114 mSpoil := by
  refine does3 (rs := [.tmp 6]) rfl rfl fun r xs n ro h => ?_
  obtain ⟨⟨hB, hp0, hp1, hl⟩, rfl⟩ := gd_some h
  have a1 := pickV_nn hB hp0 (by omega) (n := 20)
  have b1 := pickV_nn hB (p := r.p + 1) (by omega) (by omega) (n := xs.length)
  have c1 := pickV_nn hB (p := r.p + 1 + 1) (by omega) (by omega) (n := 4)
  have c2 := pickV_lt hB (p := r.p + 1 + 1) (n := 4) (by omega)
  refine ⟨fun hc => (by cases hc), ?_⟩
  simp (config := {maxSteps := 1000000}) (disch := omega) only [go_sem, ↓reduceIte, Nat.reduceEqDiff, Nat.reduceAdd, Nat.reduceMul, Nat.reduceSub, Nat.reduceLeDiff, Nat.reduceLT, Int.reduceToNat, Int.reduceLE, Int.reduceLT, Int.reduceNeg, h_copyInts, mCopyInts, h_pick, mPick, h_one, mOne, hB]
  (first | refine runKS_split (fun h1 => ?_) (fun h1 => ?_) | refine cond_split (fun h1 => ?_) (fun h1 => ?_) | refine runK_split (fun h1 => ?_) (fun h1 => ?_))
  · have g1 := of_decide_eq_true h1
    simp (config := {maxSteps := 1000000}) (disch := omega) only [go_sem, ↓reduceIte, Nat.reduceEqDiff, Nat.reduceAdd, Nat.reduceMul, Nat.reduceSub, Nat.reduceLeDiff, Nat.reduceLT, Int.reduceToNat, Int.reduceLE, Int.reduceLT, Int.reduceNeg, h_copyInts, mCopyInts, h_pick, mPick, h_one, mOne, hB, h1]
    rw [spoilV_0 g1, app_I rfl]
    simp
  · have g1 := of_decide_eq_false h1
    simp (config := {maxSteps := 1000000}) (disch := omega) only [go_sem, ↓reduceIte, Nat.reduceEqDiff, Nat.reduceAdd, Nat.reduceMul, Nat.reduceSub, Nat.reduceLeDiff, Nat.reduceLT, Int.reduceToNat, Int.reduceLE, Int.reduceLT, Int.reduceNeg, h_copyInts, mCopyInts, h_pick, mPick, h_one, mOne, hB, h1]
    (first | refine runKS_split (fun h2 => ?_) (fun h2 => ?_) | refine cond_split (fun h2 => ?_) (fun h2 => ?_) | refine runK_split (fun h2 => ?_) (fun h2 => ?_))
    · have g2 := of_decide_eq_true h2
      simp (config := {maxSteps := 1000000}) (disch := omega) only [go_sem, ↓reduceIte, Nat.reduceEqDiff, Nat.reduceAdd, Nat.reduceMul, Nat.reduceSub, Nat.reduceLeDiff, Nat.reduceLT, Int.reduceToNat, Int.reduceLE, Int.reduceLT, Int.reduceNeg, h_copyInts, mCopyInts, h_pick, mPick, h_one, mOne, hB, h1, h2]
      (first | refine runKS_split (fun h3 => ?_) (fun h3 => ?_) | refine cond_split (fun h3 => ?_) (fun h3 => ?_) | refine runK_split (fun h3 => ?_) (fun h3 => ?_))
      · have g3 := of_decide_eq_true h3
        by_cases hz : xs.length - 1 = 0
        · simp (config := {maxSteps := 1000000}) (disch := omega) only [go_sem, ↓reduceIte, Nat.reduceEqDiff, Nat.reduceAdd, Nat.reduceMul, Nat.reduceSub, Nat.reduceLeDiff, Nat.reduceLT, Int.reduceToNat, Int.reduceLE, Int.reduceLT, Int.reduceNeg, h_copyInts, mCopyInts, h_pick, mPick, h_one, mOne, hB, h1, h2, h3, hz]
          rw [spoilV_1 g2 (by omega)]
          rw [List.drop_eq_nil_of_le (by omega)]
          rfl
        · simp (config := {maxSteps := 1000000}) (disch := omega) only [go_sem, ↓reduceIte, Nat.reduceEqDiff, Nat.reduceAdd, Nat.reduceMul, Nat.reduceSub, Nat.reduceLeDiff, Nat.reduceLT, Int.reduceToNat, Int.reduceLE, Int.reduceLT, Int.reduceNeg, h_copyInts, mCopyInts, h_pick, mPick, h_one, mOne, hB, h1, h2, h3, hz]
          rw [spoilV_1 g2 (by omega)]
          simp [sub, List.take_of_length_le]
      · have g3 := of_decide_eq_false h3
        simp (config := {maxSteps := 1000000}) (disch := omega) only [go_sem, ↓reduceIte, Nat.reduceEqDiff, Nat.reduceAdd, Nat.reduceMul, Nat.reduceSub, Nat.reduceLeDiff, Nat.reduceLT, Int.reduceToNat, Int.reduceLE, Int.reduceLT, Int.reduceNeg, h_copyInts, mCopyInts, h_pick, mPick, h_one, mOne, hB, h1, h2, h3]
        rw [spoilV_1e g2 (by omega)]
    · have g2 := of_decide_eq_false h2
      simp (config := {maxSteps := 1000000}) (disch := omega) only [go_sem, ↓reduceIte, Nat.reduceEqDiff, Nat.reduceAdd, Nat.reduceMul, Nat.reduceSub, Nat.reduceLeDiff, Nat.reduceLT, Int.reduceToNat, Int.reduceLE, Int.reduceLT, Int.reduceNeg, h_copyInts, mCopyInts, h_pick, mPick, h_one, mOne, hB, h1, h2]
      (first | refine runKS_split (fun h3 => ?_) (fun h3 => ?_) | refine cond_split (fun h3 => ?_) (fun h3 => ?_) | refine runK_split (fun h3 => ?_) (fun h3 => ?_))
      · have g3 := of_decide_eq_true h3
        simp (config := {maxSteps := 1000000}) (disch := omega) only [go_sem, ↓reduceIte, Nat.reduceEqDiff, Nat.reduceAdd, Nat.reduceMul, Nat.reduceSub, Nat.reduceLeDiff, Nat.reduceLT, Int.reduceToNat, Int.reduceLE, Int.reduceLT, Int.reduceNeg, h_copyInts, mCopyInts, h_pick, mPick, h_one, mOne, hB, h1, h2, h3]
        (first | refine runKS_split (fun h4 => ?_) (fun h4 => ?_) | refine cond_split (fun h4 => ?_) (fun h4 => ?_) | refine runK_split (fun h4 => ?_) (fun h4 => ?_))
        · have g4 := of_decide_eq_true h4
          have b2 := pickV_lt hB (p := r.p + 1) (n := xs.length) (by omega)
          simp (config := {maxSteps := 1000000}) (disch := omega) only [go_sem, ↓reduceIte, Nat.reduceEqDiff, Nat.reduceAdd, Nat.reduceMul, Nat.reduceSub, Nat.reduceLeDiff, Nat.reduceLT, Int.reduceToNat, Int.reduceLE, Int.reduceLT, Int.reduceNeg, h_copyInts, mCopyInts, h_pick, mPick, h_one, mOne, hB, h1, h2, h3, h4]
          rw [spoilV_2 g3 (by omega)]
          simp
        · have g4 := of_decide_eq_false h4
          simp (config := {maxSteps := 1000000}) (disch := omega) only [go_sem, ↓reduceIte, Nat.reduceEqDiff, Nat.reduceAdd, Nat.reduceMul, Nat.reduceSub, Nat.reduceLeDiff, Nat.reduceLT, Int.reduceToNat, Int.reduceLE, Int.reduceLT, Int.reduceNeg, h_copyInts, mCopyInts, h_pick, mPick, h_one, mOne, hB, h1, h2, h3, h4]
          rw [spoilV_2e g3 (by omega)]
      · have g3 := of_decide_eq_false h3
        simp (config := {maxSteps := 1000000}) (disch := omega) only [go_sem, ↓reduceIte, Nat.reduceEqDiff, Nat.reduceAdd, Nat.reduceMul, Nat.reduceSub, Nat.reduceLeDiff, Nat.reduceLT, Int.reduceToNat, Int.reduceLE, Int.reduceLT, Int.reduceNeg, h_copyInts, mCopyInts, h_pick, mPick, h_one, mOne, hB, h1, h2, h3]
        rw [spoilV_3 g1 g2 g3]
theorem fo_spoil : FnOk Try.prog 114 := fnOk_of Try.func114 (by kernel_rfl)
theorem c_spoil : Contract Try.prog 114 mSpoil :=
  contract_of_does (DT := fun _ => []) Try.checked.mixed tabOk (gok_model fo_copyInts c_copyInts (gok_model fo_pick c_pick (gok_model fo_one c_one gok_nil))) Try.func114 rfl (by kernel_rfl) (does_spoil rfl rfl rfl)

end Go.TM
