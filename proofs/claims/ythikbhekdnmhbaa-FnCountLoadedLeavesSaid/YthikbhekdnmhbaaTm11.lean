/- The tree machine, 11: what a call is given. -/
import Derived.Test.YthikbhekdnmhbaaTm10
namespace Go.TM
set_option linter.unusedVariables false
set_option linter.unusedSimpArgs false

/-- Closed cells, each owned under an id of its own. -/
def Owns [Use] (w : World) (L : Lab) (m : Nat) : Nat → List A → List Value → Prop
  | _, [], [] => True
  | k, c :: cs, u :: us => (u.oneCell' = true ∧ Own w L c (m, k) [] u) ∧ Owns w L m (k + 1) cs us
  | _, _, _ => False

def Res1 [Use] (w : World) (L : Lab) (m k : Nat) : A → Value → Prop
  | .agg xs, u => ∃ us : Array Value, u = .agg us ∧ Owns w L m k xs us.toList
  | .ep cs, u => ∃ b cap, u = .pointer (some ⟨b, 0, none⟩) ∧ L b = .at (m, k) [] ∧ Own w L (.s true cs.length 1 cs) (m, k) [] (.slice (some ⟨b, 0, none⟩) 1 cap)
  | .tup _, _ => False
  | c, u => u.oneCell' = true ∧ Own w L c (m, k) [] u

def ResT [Use] (w : World) (L : Lab) (m : Nat) : Nat → List A → List Value → Prop
  | _, [], [] => True
  | k, c :: cs, u :: us => Res1 w L m k c u ∧ ResT w L m (k + (cellsA c).length) cs us
  | _, _, _ => False

/-- A result, closed, whose arrays are held under the instance m. -/
def ResOwn [Use] (w : World) (L : Lab) (m : Nat) : A → Value → Prop
  | .tup xs, u => ∃ us : Array Value, u = .tuple us ∧ ResT w L m 0 xs us.toList
  | c, u => Res1 w L m 0 c u

def ioHp (shs : List (Nat × Nat)) (outs : List (List A)) : Hp := fun id => if id.1 = 2 then (match shs[id.2]?, outs[id.2]? with
    | some sh, some cs => some (newRoot sh.1 sh.2 cs)
    | _, _ => none) else none

/-- What holds when a call has returned. -/
def Post [Use] (w : World) (L : Lab) (shs : List (Nat × Nat)) (r : A) (outs : List (List A)) (e : Ending) (w' : World) : Prop :=
  ∃ v L', e = .returned v ∧ HRel w L (fun _ => True) (ioHp shs outs) w' L' ∧ ResOwn w' L' 0 r v ∧
    ∀ t b, t < shs.length → L b = .at (2, t) [] → L' b = .at (2, t) [] ∧ ∀ cur e, w.heap[b]? = some (.cells cur e (0, 0)) → ∃ cur', w'.heap[b]? = some (.cells cur' e (0, 0)) ∧ cur'.size = cur.size

def lt3 : Nat → Prop := fun k => k < 3

/-- A function's call does what the model says. -/
structure Contract (P : Program) (f : Nat) (M : Model) : Prop where
  calls : ∀ (B : Use) (w : World) (L : Lab) (vals : Array Value) (args : List A) (r : A) (outs : List (List A)), M.fn args = some (r, outs) → HRel w L lt3 (initHp 0 0 M.kinds args) w L →
    (∀ j, Rep lt3 w L (initHp 0 0 M.kinds args) (initSl 0 0 0 M.kinds args j) (vals.getD j undef)) → vals.size = args.length → Calls P f vals w (Post w L (shsOf M.kinds args) r outs)
  clean : M.clean = true → ∀ args r outs, M.fn args = some (r, outs) → cleanA r = true ∧ outs.all cleanL = true

section
variable {P : Program} {T : Nat → Option TI} {w0 : World} {L0 : Lab} {U : Nat → Prop} {w w' : World} {L L' : Lab} {hp : Hp} {m : Nat}

theorem normL_map : ∀ (cs : List A), normL cs = cs.map norm
  | [] => rfl
  | c :: cs => by simp only [normL, List.map_cons]; rw [normL_map cs]

mutual
theorem Imm.norm {Q : Nat → Prop} : ∀ (a : A) (u : Value), Imm w Q a u → Imm w Q (TM.norm a) u
  | .s o sz len cs, u, h => by
    simp only [Imm, TM.norm] at h ⊢
    obtain ⟨ao, cap, h1, h2, h3, h4, h5⟩ := h
    refine ⟨ao, cap, h1, h2, h3, by rw [normL_map]; simpa using h4, h5.imp (fun e => by rw [e]; rfl) fun ⟨a, e1, e2, e3, e4⟩ => ⟨a, e1, e2, e3, ImmL.norm cs _ _ e4⟩⟩
  | .i k n, _, h => h
  | .b v, _, h => h
  | .und, _, h => h
  | .ref .., _, h => h
  | .ptr .., _, h => h
  | .ep _, _, h => h
  | .agg _, _, h => h
  | .tup _, _, h => h
theorem ImmL.norm {Q : Nat → Prop} : ∀ (cs : List A) (b k : Nat), ImmL w Q cs b k → ImmL w Q (normL cs) b k
  | [], _, _, _ => by simp [normL, ImmL]
  | c :: cs, b, k, h => by
    simp only [ImmL, normL] at h ⊢
    obtain ⟨⟨u, h1, h2, h3⟩, h4⟩ := h
    exact ⟨⟨u, h1, h2, Imm.norm c u h3⟩, ImmL.norm cs b (k + 1) h4⟩
end

theorem snap1_imm {B : Use} (h : HRel w0 L0 U hp w L) {Q : Nat → Prop} (hI : ∀ b, isProt L b → Q b) {v c : A} {u : Value} {rd : List Id} (hv : Rep U w L hp v u) (hs : snap1 hp v = some (c, rd))
    (hR : ∀ id ∈ rd, ∀ b q, L b = .at id q → Q b) : Imm w Q c u := by
  unfold snap1 at hs
  split at hs
  · cases hs; simpa [Rep, Imm] using hv
  · cases hs; simpa [Rep, Imm] using hv
  · rename_i o sz len cs
    cases hs
    suffices h0 : Imm w Q (.s false sz len cs) u by simpa only [TM.norm] using Imm.norm _ _ h0
    cases o with
    | true =>
      simp only [Rep] at hv
      obtain ⟨rfl, rfl, rfl⟩ := hv
      simp only [Imm]
      exact ⟨none, 0, rfl, Nat.le_refl _, Nat.zero_le _, by simp, by simp⟩
    | false =>
      simp only [Rep] at hv
      have := Imm.mono (P' := Q) (fun b hb => ⟨hI b hb, rfl⟩) _ _ hv
      simpa [Imm] using this
  · rename_i id path ver off sz len
    split at hs
    · rename_i nsz nlen cs hn
      split at hs
      · rename_i hcond
        obtain ⟨rfl, hfit⟩ := hcond
        cases hs
        suffices h0 : Imm w Q (.s false sz len (rng cs off (len * sz))) u by simpa only [TM.norm] using Imm.norm _ _ h0
        obtain ⟨u1, hu1⟩ := h.node hn
        simp only [Rep] at hv
        obtain ⟨_, _, ao, cap, rfl, hlc, hmax, hv⟩ := hv
        have hcsl : cs.length = nlen * sz := by
          simp only [Own] at hu1
          rcases hu1 with ⟨_, rfl, rfl⟩ | ⟨_, _, _, _, _, _, _, _, _, _, h7, _⟩
          · simp
          · exact h7
        simp only [Imm]
        refine ⟨ao, cap, rfl, hlc, hmax, by simp [rng]; omega, ?_⟩
        rcases hv (by simp [hn]) with ⟨rfl, rfl, rfl⟩ | ⟨b, cur, e, rfl, hb, hh, hc⟩
        · left; simp [rng]
        · by_cases hc0 : cs = []
          · subst hc0; left; simp [rng]
          · right
            obtain ⟨cur', e', cap', k1, _, _, _, _, k6⟩ := h.block hn hb hc0
            refine ⟨_, rfl, rfl, hR id (by simp) b path hb, ?_⟩
            have := OwnL.imm (P := Q) hI cs path 0 cur'.toList b 0 (fun b' q hq => hR id (by simp) b' _ hq) (fun i v hv => by rw [cell_row k1]; simpa using hv) k6
            simpa using ImmL.rng cs 0 off (len * sz) this
      · cases hs
    · cases hs
  · cases hs

theorem imm_rep3 {B : Use} {V : Nat → Prop} {hpc : Hp} {c : A} {u : Value} (h : Imm w (isProt L) c u) : Rep V w L hpc (imm1 c) u := by
  cases c <;> simp_all [Imm, imm1, Rep]

theorem imm_agg {Q : Nat → Prop} {c : A} {u : Value} (h : Imm w Q c u) : immV c = imm1 c := by
  cases c <;> simp_all [Imm, immV]

theorem snapL_imm {B : Use} (h : HRel w0 L0 U hp w L) {Q : Nat → Prop} (hI : ∀ b, isProt L b → Q b) : ∀ {vs cs : List A} {us : List Value} {rd : List Id}, RepL U w L hp vs us → snapL hp vs = some (cs, rd) →
    (∀ id ∈ rd, ∀ b q, L b = .at id q → Q b) → cs.length = us.length ∧ ∀ (j : Nat) c u, cs[j]? = some c → us[j]? = some u → Imm w Q c u
  | [], _, us, _, hv, hs, _ => by
    cases us with
    | nil => cases hs; simp
    | cons u us => simp [RepL] at hv
  | v :: vs, _, us, _, hv, hs, hR => by
    cases us with
    | nil => simp [RepL] at hv
    | cons u us =>
      simp only [RepL] at hv
      unfold snapL at hs
      split at hs
      · rename_i c rd cs rds h1 h2
        cases hs
        have e1 := snap1_imm h hI hv.1 h1 fun id hid => hR id (by simp [hid])
        obtain ⟨e2, e3⟩ := snapL_imm h hI hv.2 h2 fun id hid => hR id (by simp [hid])
        refine ⟨by simp [e2], fun j c' u' hc hu => ?_⟩
        cases j with
        | zero => simp at hc hu; subst hc; subst hu; exact e1
        | succ j => exact e3 j c' u' (by simpa using hc) (by simpa using hu)
      · cases hs

end

theorem repL_of_get {B : Use} {V : Nat → Prop} {w : World} {L : Lab} {hp : Hp} : ∀ {xs : List A} {us : List Value}, xs.length = us.length → (∀ (j : Nat) c u, xs[j]? = some c → us[j]? = some u → Rep V w L hp c u) → RepL V w L hp xs us
  | [], [], _, _ => by simp [RepL]
  | [], _ :: _, h, _ => by simp at h
  | _ :: _, [], h, _ => by simp at h
  | x :: xs, u :: us, h, hj => by
    simp only [RepL]
    exact ⟨hj 0 x u rfl rfl, repL_of_get (by simpa using h) fun j c v hc hv => hj (j + 1) c v (by simpa using hc) (by simpa using hv)⟩

/-- An argument that is only read, as the callee has it. -/
theorem snap_rep (B Bc : Use) {w0 w : World} {L0 L Lc : Lab} {U V : Nat → Prop} {hp hpc : Hp} (h : @HRel B w0 L0 U hp w L) (hI : ∀ b, @isProt B L b → @isProt Bc Lc b) {v c : A} {u : Value} {rd : List Id}
    (hv : @Rep B U w L hp v u) (hs : snap hp v = some (c, rd)) (hR : ∀ id ∈ rd, ∀ b q, L b = .at id q → @isProt Bc Lc b) : @Rep Bc V w Lc hpc (immV c) u := by
  unfold snap at hs
  split at hs
  · rename_i xs
    simp only [Option.map_eq_some_iff] at hs
    obtain ⟨⟨cs, rd'⟩, h1, h2⟩ := hs
    cases h2
    simp only [Rep] at hv
    obtain ⟨us, rfl, hv⟩ := hv
    obtain ⟨e1, e2⟩ := snapL_imm h hI hv h1 hR
    simp only [immV, Rep]
    refine ⟨us, rfl, repL_of_get (by simpa using e1) fun j c u hc hu => ?_⟩
    rw [List.getElem?_map] at hc
    cases hj : cs[j]? with
    | none => simp [hj] at hc
    | some c' =>
      simp [hj] at hc
      subst hc
      exact imm_rep3 (e2 j c' u hj hu)
  · have := snap1_imm h hI hv hs hR
    rw [imm_agg this]
    exact imm_rep3 this

end Go.TM
