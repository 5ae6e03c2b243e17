/- The tree machine, 8: append. -/
import Derived.Test.YthikbhekdnmhbaaTm7
namespace Go.TM
set_option linter.unusedVariables false
set_option linter.unusedSimpArgs false

section
variable {P : Program} {T : Nat → Option TI} {w0 : World} {L0 : Lab} {U : Nat → Prop} {w w' : World} {L L' : Lab} {hp : Hp} {sl : Nat → A} {a : Act} {o : Oper} {e : Eff} {m : Nat}

/-! ### The run -/

/-- What an append's second operand holds. -/
def SrcV (w : World) (size : Nat) (x : Value) (n : Nat) (news : List Value) : Prop :=
  ∃ ao cap, x = .slice ao n cap ∧ news.length = n * size ∧ (∀ u ∈ news, u.oneCell' = true) ∧ (n = 0 ∨ ∃ a : Addr, ao = some a ∧ ∀ (j : Nat) (v : Value), news[j]? = some v → w.cell? (a.add j) = some v)

theorem SrcV.run [Use] {size n : Nat} {x : Value} {news : List Value} (h : SrcV w size x n news) (w1 : World) (hw : w1 = w ∨ w1 = w.drew) : (Builtin.firstCells size n x).run P w1 = .ok news.toArray w1 := by
  obtain ⟨ao, cap, rfl, hl, _, h3⟩ := h
  rcases h3 with rfl | ⟨a, rfl, h3⟩
  · have : news = [] := List.eq_nil_of_length_eq_zero (by simpa using hl)
    subst this
    cases ao with
    | none => exact run_firstCells_none w1 size 0 0 cap
    | some a => exact run_firstCells_some (P := P) w1 size 0 a 0 cap [] (by simp) (by simp)
  · exact run_firstCells_some (P := P) w1 size n a n cap news hl (fun j v hv => by rcases hw with rfl | rfl <;> exact h3 j v hv)

theorem SrcV.len [Use] {size n : Nat} {x : Value} {news : List Value} (h : SrcV w size x n news) (w1 : World) : (Builtin.lenOf x).run P w1 = .ok n w1 := by
  obtain ⟨ao, cap, rfl, _⟩ := h
  simp [Builtin.lenOf]

theorem run_app_room [Use] {t ty el e : Nat} {i : TypeInfo} (ht : P.underlying t = some (.slice el)) (hi : P.info? el = some i) {g sLen sCap : Nat} {cur : Array Value} (hg : w.heap[g]? = some (.cells cur e (0, 0)))
    {x : Value} {n : Nat} {news : List Value} (hx : SrcV w i.size x n news) (hroom : sLen + n ≤ sCap) (hfit : sLen * i.size + news.length ≤ cur.size) :
    (Builtin.append_ #[t, t] ty #[.slice (some ⟨g, 0, none⟩) sLen sCap, x]).run P w =
      .ok (.slice (some ⟨g, 0, none⟩) (sLen + n) sCap) (w.setRow g (cur.toList.take (sLen * i.size) ++ news ++ cur.toList.drop (sLen * i.size + news.length)).toArray) := by
  have hf := hx.run (P := P) w (.inl rfl)
  have hlen := hx.len (P := P) w
  have hst := run_storeCells_at P g (sLen * i.size) e news 0 cur w hg (by simpa using hfit) (by obtain ⟨_, _, _, _, h1, _⟩ := hx; exact h1)
  simp only [Nat.add_zero] at hst
  obtain ⟨ao, cap, rfl, _⟩ := hx
  simp [Builtin.append_, run_underlying ht, sizeOf, typeInfo, hi, Builtin.lenOf, hroom, hf, Addr.add_lit, hst]

theorem run_app_grow [Use] {t ty el : Nat} {i : TypeInfo} {z : Value} (ht : P.underlying t = some (.slice el)) (hi : P.info? el = some i) (hz : i.zero = some z) {d : Value} {sLen sCap : Nat} {olds : List Value} (hd : SrcV w i.size d sLen olds) (hdc : ∃ ao, d = .slice ao sLen sCap)
    {x : Value} {n : Nat} {news : List Value} (hx : SrcV w i.size x n news) (hg : sCap < sLen + n) (h63 : ((sLen + n : Nat) : Int) ≤ 9223372036854775807) (hfit : (sLen + n) * i.bytes ≤ 140737488355328) :
    (Builtin.append_ #[t, t] ty #[d, x]).run P w = .ok (.slice (some ⟨w.heap.size, 0, none⟩) (sLen + n) (grownCap w (sLen + n) sCap el))
        (w.drew.alloc (.cells (olds.toArray ++ news.toArray ++ Builtin.zeroCells z.cells (grownCap w (sLen + n) sCap el - (sLen + n))) el)) := by
  have hn : ¬ (sLen + n ≤ sCap) := by omega
  have h63' : ¬ (9223372036854775807 < ((sLen : Int) + (n : Int))) := by omega
  have h48 := growslice_fits (old := sCap) (by omega) hfit
  have h48' : ¬ (281474976710656 < Builtin.nextslicecap (sLen + n) sCap * i.bytes) := by omega
  have hf := hx.run (P := P) w.drew (.inr rfl)
  have hfo := hd.run (P := P) w.drew (.inr rfl)
  obtain ⟨ao, rfl⟩ := hdc
  obtain ⟨ao', cap', rfl, _⟩ := hx
  simp [Builtin.append_, run_underlying ht, sizeOf, typeInfo, zeroValue, hi, hz, Builtin.lenOf, hn, h63', h48', Question.forced, hf, hfo, newRow, grownCap]
  rw [← Array.append_assoc]
  simp

theorem run_app_nil [Use] {t ty el : Nat} {i : TypeInfo} (ht : P.underlying t = some (.slice el)) (hi : P.info? el = some i) {x : Value} {news : List Value} (hx : SrcV w i.size x 0 news) :
    (Builtin.append_ #[t, t] ty #[.slice none 0 0, x]).run P w = .ok (.slice none 0 0) w := by
  have hf := hx.run (P := P) w (.inl rfl)
  obtain ⟨ao', cap', rfl, _⟩ := hx
  simp [Builtin.append_, run_underlying ht, sizeOf, typeInfo, hi, Builtin.lenOf, hf]

/-! ### The source -/

theorem own_imm1 [Use] {id : Id} {p : List Nat} {c : A} {u : Value} (h : Imm w (isProt L) c u) : Own w L (imm1 c) id p u := by
  cases c <;> simp_all [Imm, imm1, Own]

theorem own_scal [Use] {id id' : Id} {p p' : List Nat} {c : A} {u : Value} (h : Own w L c id p u) : Own w L (scal c) id' p' u := by
  match c, h with
  | .i k n, h => simpa [scal, Own] using h
  | .b v, h => simpa [scal, Own] using h
  | .s .., _ => simp [scal, Own]
  | .und, _ => simp [scal, Own]
  | .ref .., h => simp [Own] at h
  | .ptr .., h => simp [Own] at h
  | .ep _, h => simp [Own] at h
  | .agg _, h => simp [Own] at h
  | .tup _, h => simp [Own] at h

/-- The labels when some cells of a root are taken out. -/
def relabR (L : Lab) (id : Id) (off n : Nat) (tid : Id) : Lab := fun b => match L b with
  | .at i p => if i = id then (match p with
    | j :: q => if off ≤ j ∧ j < off + n then .at tid ((j - off) :: q) else .at i p
    | [] => .at i p) else .at i p
  | x => x

theorem relabR_cases [Use] (L : Lab) (id : Id) (off n : Nat) (tid : Id) (b : Nat) :
    (∃ j q, L b = .at id (j :: q) ∧ off ≤ j ∧ j < off + n ∧ relabR L id off n tid b = .at tid ((j - off) :: q)) ∨ ((∀ j q, off ≤ j → j < off + n → L b ≠ .at id (j :: q)) ∧ relabR L id off n tid b = L b) := by
  unfold relabR
  cases hL : L b with
  | free => exact .inr ⟨by simp, rfl⟩
  | prot => exact .inr ⟨by simp, rfl⟩
  | «at» i p =>
    simp only
    by_cases hi : i = id
    · subst hi
      rw [if_pos rfl]
      cases p with
      | nil => exact .inr ⟨by simp, rfl⟩
      | cons j q =>
        simp only
        by_cases hj : off ≤ j ∧ j < off + n
        · rw [if_pos hj]
          exact .inl ⟨j, q, rfl, hj.1, hj.2, rfl⟩
        · rw [if_neg hj]
          refine .inr ⟨fun j' q' h1 h2 h3 => ?_, rfl⟩
          cases h3
          exact hj ⟨h1, h2⟩
    · rw [if_neg hi]
      refine .inr ⟨fun j q _ _ h3 => ?_, rfl⟩
      cases h3
      exact hi rfl

theorem gone_get [Use] (cs : List A) (off n j : Nat) (h : off + n ≤ cs.length) : (goneR cs off n)[j]? = if off ≤ j ∧ j < off + n then (cs[j]?).map gone1 else cs[j]? := by
  unfold goneR
  have hr : (rng cs off n).length = n := by unfold rng; simp; omega
  by_cases h1 : j < off
  · rw [if_neg (by omega), List.append_assoc, List.getElem?_append_left (by simp; omega), List.getElem?_take, if_pos h1]
  · by_cases h2 : j < off + n
    · rw [if_pos ⟨by omega, h2⟩, List.append_assoc, List.getElem?_append_right (by simp; omega), List.getElem?_append_left (by simp [hr]; omega)]
      rw [List.getElem?_map, rng_get]
      simp only [List.length_take]
      rw [Nat.min_eq_left (by omega), if_pos (by omega), show off + (j - off) = j from by omega]
    · rw [if_neg (by omega), List.getElem?_append_right (by simp [hr]; omega)]
      simp [hr]
      congr 1
      omega

theorem own_gone [Use] {id : Id} {p : List Nat} {c : A} {u : Value} (hp : ∀ b, L b = .prot → L' b = .prot ∧ w'.heap[b]? = w.heap[b]?) (h : Own w L c id p u) : Own w' L' (gone1 c) id p u := by
  match c, h with
  | .s true sz len cs, _ => simp [gone1, Own]
  | .i k n, h => simpa [gone1, Own] using h
  | .b v, h => simpa [gone1, Own] using h
  | .s false sz len cs, h => exact Own.flat hp rfl h
  | .und, _ => simp [gone1, Own]
  | .ref .., h => simp [Own] at h
  | .ptr .., h => simp [Own] at h
  | .ep _, h => simp [Own] at h
  | .agg _, h => simp [Own] at h
  | .tup _, h => simp [Own] at h

theorem getP_gone [Use] {sz len off n : Nat} {cs : List A} (h : off + n ≤ cs.length) (q : List Nat) (hg : TM.getP sz len (goneR cs off n) q ≠ none) : TM.getP sz len cs q ≠ none ∧ ∀ j q', q = j :: q' → ¬ (off ≤ j ∧ j < off + n) := by
  cases q with
  | nil => exact ⟨by simp [TM.getP], by simp⟩
  | cons c q =>
    simp only [TM.getP] at hg ⊢
    rw [gone_get cs off n c h] at hg
    by_cases hc : off ≤ c ∧ c < off + n
    · rw [if_pos hc] at hg
      exfalso
      cases hcc : cs[c]? with
      | none => simp [hcc] at hg
      | some x => rw [hcc] at hg; simp only [Option.map_some] at hg; cases x <;> simp [gone1] at hg; rename_i o' _ _ _; cases o' <;> simp at hg
    · rw [if_neg hc] at hg
      refine ⟨hg, fun j q' e => ?_⟩
      cases e
      exact hc

/-- What the source of an append gives. -/
theorem src_ok [Use] {sz : Nat} (hsz0 : 0 < sz) (h : HRel w0 L0 (addU U m) hp w L) (hm : ¬ U m) (hLm : ∀ b k p, L b ≠ .at (m, k) p) {flat : Bool} {x : A} {u : Value} {scs : List A} {slen : Nat} {ups : List (Id × Option Root)} {rd : List Id}
    (hx : Rep U w L hp x u) (hs : srcOf hp flat sz x = some (scs, slen, ups, rd)) :
    ∃ L1 news, SrcV w sz u slen news ∧ HRel w0 L0 (addU U m) (applyH hp ups) w L1 ∧ OwnL w L1 scs (m, 998) [] 0 news ∧ scs.length = news.length ∧ Keeps U w L hp U w L1 (applyH hp ups) ∧
      (∀ b p, L1 b = .at (m, 998) p → ∃ j q, p = j :: q ∧ j < news.length) ∧ (∀ b k p, k ≠ 998 → L1 b ≠ .at (m, k) p) ∧ (∀ i ∈ ups.map (·.1), U i.1) := by
  unfold srcOf at hs
  split at hs
  · rename_i o' sz' len cs
    split at hs
    · rename_i hsz
      subst hsz
      cases hs
      have hx' : ∃ ao cap, u = .slice ao slen cap ∧ slen ≤ cap ∧ cap ≤ maxLen ∧ cs.length = slen * sz' ∧
          (cs = [] ∨ ∃ ad : Addr, ao = some ad ∧ ad.spot = none ∧ isProt L ad.block ∧ ImmL w (isProt L) cs ad.block ad.off) := by
        cases o' with
        | true =>
          simp only [Rep] at hx
          obtain ⟨h1, rfl, rfl⟩ := hx
          exact ⟨none, 0, h1, by simp, by simp, by simp, .inl rfl⟩
        | false => simpa only [Rep, Imm] using hx
      obtain ⟨ao, cap, rfl, h2, h3, h4, h5⟩ := hx'
      rcases h5 with rfl | ⟨ad, rfl, e1, e2, e3⟩
      · refine ⟨L, [], ⟨ao, cap, rfl, by simpa using h4, by simp, ?_⟩, h, by simp [OwnL], rfl, Keeps.rfl', fun b p hb => (hLm b _ p hb).elim, fun b k p _ => hLm b k p, by simp⟩
        left
        simp only [List.length_nil] at h4
        rcases Nat.mul_eq_zero.1 h4.symm with h | h
        · exact h
        · omega
      · obtain ⟨us, f1, f2, f3⟩ := ImmL.vals cs ad.off e3
        refine ⟨L, us, ⟨_, cap, rfl, by rw [f1]; exact h4, ?_, .inr ⟨ad, rfl, ?_⟩⟩, h, ?_, by simp [f1], Keeps.rfl', fun b p hb => (hLm b _ p hb).elim, fun b k p _ => hLm b k p, by simp⟩
        · intro v hv
          obtain ⟨j, hj⟩ := List.getElem?_of_mem hv
          exact (f2 j v hj).2
        · intro j v hj
          have had : ad = ⟨ad.block, ad.off, none⟩ := by cases ad; simp_all
          rw [had, add_lit]
          exact (f2 j v hj).1
        · refine OwnL.intro _ _ _ fun j c hc => ?_
          rw [List.getElem?_map] at hc
          simp only [Option.map_eq_some_iff] at hc
          obtain ⟨c', hc', rfl⟩ := hc
          have hjl : j < us.length := by rw [f1]; exact (List.getElem?_eq_some_iff.1 hc').1
          have hv := List.getElem?_eq_getElem hjl
          exact ⟨_, hv, (f2 j _ hv).2, own_imm1 (f3 j c' _ hc' hv)⟩
    · cases hs
  · rename_i id path ver off sz' len
    split at hs
    · rename_i nsz nlen cs r hn hr
      split at hs
      · rename_i hcond
        obtain ⟨rfl, rfl, hfit⟩ := hcond
        have hxr := hx
        simp only [Rep] at hx
        obtain ⟨hU1, hvl, ao, cap, rfl, hlc, hmax, hx⟩ := hx
        -- the cells
        have hcells : ∃ news : List Value, SrcV w nsz (.slice ao len cap) len news ∧ OwnL w L (rng cs off (len * nsz)) id path off news ∧ (rng cs off (len * nsz)).length = news.length ∧ off + len * nsz ≤ cs.length := by
          obtain ⟨u1, hu1⟩ := h.node hn
          simp only [Own] at hu1
          have hlen : cs.length = nlen * nsz := by
            rcases hu1 with ⟨_, rfl, rfl⟩ | ⟨_, _, _, _, _, _, _, _, _, _, h7, _⟩
            · simp
            · exact h7
          have hrl : (rng cs off (len * nsz)).length = len * nsz := by unfold rng; simp; omega
          rcases hx (by simp [hn]) with ⟨rfl, rfl, rfl⟩ | ⟨b, cur, ee, rfl, hb, hh, hcap⟩
          · exact ⟨[], ⟨none, 0, rfl, by simp, by simp, .inl rfl⟩, by simp [rng, OwnL], by simp [rng], by omega⟩
          · by_cases hc0 : cs = []
            · subst hc0
              simp only [List.length_nil] at hlen
              have hl0 : len * nsz = 0 := by omega
              refine ⟨[], ⟨_, cap, rfl, by simp [hl0], by simp, ?_⟩, by simp [rng, OwnL], by simp [rng], by simp; omega⟩
              exact .inr ⟨_, rfl, by simp⟩
            · obtain ⟨cur', ee', cap', k1, k2, k3, k4, k5, k6⟩ := h.block hn hb hc0
              rw [hh] at k1
              cases k1
              have hle : nlen * nsz ≤ cap' * nsz := Nat.mul_le_mul_right _ k3
              have hcl : cur.toList.length = cur.size := by simp
              refine ⟨(cur.toList.drop off).take (len * nsz), ⟨_, cap, rfl, by simp; omega, ?_, .inr ⟨_, rfl, ?_⟩⟩, ?_, by rw [hrl]; simp; omega, by omega⟩
              · intro v hv
                obtain ⟨j, hj⟩ := List.getElem?_of_mem hv
                rw [List.getElem?_take] at hj
                split at hj
                · rename_i hjl
                  rw [List.getElem?_drop] at hj
                  have hlt : off + j < cs.length := by omega
                  obtain ⟨u', e1, e2, _⟩ := OwnL.get cs 0 _ k6 (off + j) _ (List.getElem?_eq_getElem hlt)
                  rw [e1] at hj
                  cases hj
                  exact e2
                · cases hj
              · intro j v hj
                rw [List.getElem?_take] at hj
                split at hj
                · rw [List.getElem?_drop] at hj
                  rw [add_lit, cell_row hh]
                  exact hj
                · cases hj
              · refine OwnL.intro _ _ _ fun j c hc => ?_
                rw [rng_get] at hc
                split at hc
                · rename_i hjl
                  obtain ⟨u', e1, e2, e3⟩ := OwnL.get cs 0 _ k6 (off + j) c hc
                  refine ⟨u', ?_, e2, by simpa using e3⟩
                  rw [List.getElem?_take, if_pos hjl, List.getElem?_drop]
                  exact e1
                · cases hc
        obtain ⟨news, hsv, hown, hnl, hbd⟩ := hcells
        split at hs
        · cases hs
          refine ⟨L, news, hsv, h, ?_, by simpa using hnl, Keeps.rfl', fun b p hb => (hLm b _ p hb).elim, fun b k p _ => hLm b k p, by simp⟩
          refine OwnL.intro _ _ _ fun j c hc => ?_
          rw [List.getElem?_map] at hc
          simp only [Option.map_eq_some_iff] at hc
          obtain ⟨c', hc', rfl⟩ := hc
          obtain ⟨u', e1, e2, e3⟩ := OwnL.get _ _ _ hown j c' hc'
          exact ⟨u', e1, e2, own_scal e3⟩
        · split at hs
          · rename_i hpath
            subst hpath
            cases hs
            have hcs : r.cs = cs := by
              unfold node at hn
              rw [hr] at hn
              simp [verOk, TM.getP] at hn
              exact hn.2.2
            subst hcs
            have hidm : ∀ k, id ≠ (m, k) := by rintro k rfl; exact hm hU1
            have hprot : ∀ b, L b = .prot → relabR L id off (slen * nsz) (m, 998) b = .prot ∧ w.heap[b]? = w.heap[b]? := by
              intro b hb
              refine ⟨?_, rfl⟩
              rcases relabR_cases L id off (slen * nsz) (m, 998) b with ⟨j, q, e1, _⟩ | ⟨_, e2⟩
              · rw [hb] at e1; cases e1
              · rw [e2]; exact hb
            refine ⟨relabR L id off (slen * nsz) (m, 998), news, hsv, ?_, ?_, hnl, ?_, ?_, ?_, by simpa using hU1⟩
            · rw [applyH_one]
              refine ⟨fun i r' hr' => ?_, fun b b' i p hb hb' => ?_, fun b hb => ?_, fun b i p hb => ?_, fun i r' hr' => ?_, fun b hb => ?_, h.size, h.os, h.tape, h.output, h.use, h.frz⟩
              · by_cases hi : i = id
                · subst hi
                  rw [upd_same] at hr'
                  cases hr'
                  obtain ⟨u0, hu0⟩ := h.roots i r hr
                  refine ⟨u0, ?_⟩
                  simp only [Own] at hu0 ⊢
                  rcases hu0 with ⟨h1, h2, h3⟩ | ⟨b, cur, e, cap', h1, h2, h3, h4, h5, h6, h7, h8⟩
                  · refine .inl ⟨h1, h2, ?_⟩
                    rw [h3]
                    simp [goneR, rng]
                  · refine .inr ⟨b, cur, e, cap', h1, ?_, h3, h4, h5, h6, ?_, ?_⟩
                    · rcases relabR_cases L i off (slen * nsz) (m, 998) b with ⟨j, q, e1, _⟩ | ⟨_, e2⟩
                      · rw [h2] at e1; cases e1
                      · rw [e2]; exact h2
                    · rw [← h7]
                      unfold goneR rng
                      simp
                      omega
                    · refine OwnL.intro _ _ _ fun j c hc => ?_
                      rw [gone_get _ _ _ _ hbd] at hc
                      split at hc
                      · rename_i hj
                        simp only [Option.map_eq_some_iff] at hc
                        obtain ⟨c', hc', rfl⟩ := hc
                        obtain ⟨u', e1, e2, e3⟩ := OwnL.get _ 0 _ h8 j c' hc'
                        exact ⟨u', e1, e2, own_gone hprot e3⟩
                      · rename_i hj
                        obtain ⟨u', e1, e2, e3⟩ := OwnL.get _ 0 _ h8 j c hc
                        refine ⟨u', e1, e2, Own.move hprot c _ _ u' (fun b' q hq => ⟨?_, rfl⟩) e3⟩
                        rcases relabR_cases L i off (slen * nsz) (m, 998) b' with ⟨j', q', e4, e5, e6, _⟩ | ⟨_, e4⟩
                        · rw [hq] at e4
                          simp only [List.nil_append, Nat.zero_add, List.singleton_append, Lbl.at.injEq, List.cons.injEq, true_and] at e4
                          omega
                        · rw [e4]; exact hq
                · rw [upd_ne _ _ _ _ hi] at hr'
                  obtain ⟨u0, hu0⟩ := h.roots i r' hr'
                  refine ⟨u0, Own.move hprot _ [] [] u0 (fun b q hq => ⟨?_, rfl⟩) hu0⟩
                  rcases relabR_cases L id off (slen * nsz) (m, 998) b with ⟨j', q', e4, _⟩ | ⟨_, e4⟩
                  · rw [hq] at e4; simp only [Lbl.at.injEq] at e4; exact (hi e4.1).elim
                  · rw [e4]; exact hq
              · rcases relabR_cases L id off (slen * nsz) (m, 998) b with ⟨j, q, e1, e2, e3, e4⟩ | ⟨e1, e2⟩ <;> rcases relabR_cases L id off (slen * nsz) (m, 998) b' with ⟨j', q', f1, f2, f3, f4⟩ | ⟨f1, f2⟩
                · rw [e4] at hb
                  rw [f4, ← hb] at hb'
                  simp only [Lbl.at.injEq, List.cons.injEq, true_and] at hb'
                  obtain ⟨g1, rfl⟩ := hb'
                  obtain rfl : j' = j := by omega
                  exact h.inj b b' _ _ e1 f1
                · rw [e4] at hb
                  rw [f2, ← hb] at hb'
                  exact (hLm b' _ _ hb').elim
                · rw [f4] at hb'
                  rw [e2, ← hb'] at hb
                  exact (hLm b _ _ hb).elim
                · rw [e2] at hb
                  rw [f2] at hb'
                  exact h.inj b b' i p hb hb'
              · rcases relabR_cases L id off (slen * nsz) (m, 998) b with ⟨j, q, e1, _⟩ | ⟨_, e2⟩
                · rw [h.free b hb] at e1; cases e1
                · rw [e2]; exact h.free b hb
              · rcases relabR_cases L id off (slen * nsz) (m, 998) b with ⟨j, q, e1, e2, e3, e4⟩ | ⟨_, e2⟩
                · rw [e4] at hb; cases hb; exact .inr rfl
                · rw [e2] at hb; exact h.used b i p hb
              · by_cases hi : i = id
                · subst hi; exact .inl hU1
                · rw [upd_ne _ _ _ _ hi] at hr'; exact h.usedR i r' hr'
              · obtain ⟨e1, e2⟩ := h.prot b hb
                exact ⟨(hprot b e1).1, e2⟩
            · refine OwnL.intro _ _ _ fun j c hc => ?_
              obtain ⟨u', e1, e2, e3⟩ := OwnL.get _ _ _ hown j c hc
              refine ⟨u', e1, e2, Own.move hprot c _ _ u' (fun b' q hq => ⟨?_, rfl⟩) e3⟩
              have hjl : j < slen * nsz := by
                have := (List.getElem?_eq_some_iff.1 hc).1
                unfold rng at this
                simp at this
                omega
              simp only [List.nil_append, List.singleton_append] at hq ⊢
              rcases relabR_cases L id off (slen * nsz) (m, 998) b' with ⟨j', q', e4, e5, e6, e7⟩ | ⟨e4, _⟩
              · rw [hq] at e4
                simp only [Lbl.at.injEq, List.cons.injEq, true_and] at e4
                obtain ⟨rfl, rfl⟩ := e4
                rw [e7]
                congr 2
                omega
              · exact (e4 (off + j) q (by omega) (by omega) hq).elim
            · rw [applyH_one]
              refine ⟨fun _ hk => hk, hprot, fun i r' hr' hu => ?_, fun i p v hu hv hnn => ?_⟩
              · by_cases hi : i = id
                · subst hi
                  rw [upd_same] at hr'
                  cases hr'
                  exact ⟨r, hr, fun _ => Nat.le_refl _⟩
                · rw [upd_ne _ _ _ _ hi] at hr'
                  exact ⟨r', hr', fun _ => Nat.le_refl _⟩
              · have key : node hp i p v ≠ none ∧ (i = id → ∀ j q, p = j :: q → ¬ (off ≤ j ∧ j < off + slen * nsz)) := by
                  unfold node at hnn ⊢
                  by_cases hi : i = id
                  · subst hi
                    rw [upd_same] at hnn
                    rw [hr]
                    simp only at hnn ⊢
                    have hv2 : verOk ⟨r.sz, r.len, goneR r.cs off (slen * nsz), r.ver⟩ p v = verOk r p v := by unfold verOk; split <;> rfl
                    rw [hv2] at hnn
                    split at hnn
                    · rename_i hvk
                      rw [if_pos hvk]
                      obtain ⟨g1, g2⟩ := getP_gone hbd p hnn
                      exact ⟨g1, fun _ => g2⟩
                    · exact (hnn rfl).elim
                  · rw [upd_ne _ _ _ _ hi] at hnn
                    exact ⟨hnn, fun e => (hi e).elim⟩
                refine ⟨key.1, fun b hb => ⟨?_, fun cur e hce => ⟨cur, hce, rfl⟩⟩⟩
                rcases relabR_cases L id off (slen * nsz) (m, 998) b with ⟨j', q', e4, e5, e6, _⟩ | ⟨_, e4⟩
                · rw [hb] at e4
                  simp only [Lbl.at.injEq] at e4
                  exact (key.2 e4.1 j' q' e4.2 ⟨e5, e6⟩).elim
                · rw [e4]; exact hb
            · intro b p hb
              rcases relabR_cases L id off (slen * nsz) (m, 998) b with ⟨j', q', e4, e5, e6, e7⟩ | ⟨_, e4⟩
              · rw [e7] at hb
                cases hb
                refine ⟨_, _, rfl, ?_⟩
                have : news.length = slen * nsz := by obtain ⟨_, _, _, h2, _⟩ := hsv; exact h2
                omega
              · rw [e4] at hb; exact (hLm b _ p hb).elim
            · intro b k p hk hb
              rcases relabR_cases L id off (slen * nsz) (m, 998) b with ⟨j', q', e4, e5, e6, e7⟩ | ⟨_, e4⟩
              · rw [e7] at hb; cases hb; exact hk rfl
              · rw [e4] at hb; exact hLm b k p hb
          · cases hs
      · cases hs
    · cases hs
  · cases hs

/-! ### The destination, and the new array -/

/-- The labels when the destination's array, and what is held ready, become the new root. -/
def relabA (L : Lab) (m : Nat) (keep : Bool) (k : Nat) : Lab := fun b => match L b with
  | .at i p => if i = (m, 998) then (match p with
      | j :: q => .at (m, 0) ((k + j) :: q)
      | [] => .free)
    else if i = (m, 0) then (match p with
      | [] => if keep then .at i p else .free
      | j :: q => if j < k then .at i p else .free)
    else .at i p
  | x => x

theorem relabA_far [Use] {keep : Bool} {k b : Nat} (h : ∀ c p, L b ≠ .at (m, c) p) : relabA L m keep k b = L b := by
  unfold relabA
  cases hL : L b with
  | free => rfl
  | prot => rfl
  | «at» i p =>
    simp only
    rw [if_neg (by rintro rfl; exact h _ _ hL), if_neg (by rintro rfl; exact h _ _ hL)]

theorem relabA_new [Use] {keep : Bool} {k b j : Nat} {q : List Nat} (h : L b = .at (m, 998) (j :: q)) : relabA L m keep k b = .at (m, 0) ((k + j) :: q) := by
  simp [relabA, h]

theorem relabA_old [Use] {keep : Bool} {k b j : Nat} {q : List Nat} (h : L b = .at (m, 0) (j :: q)) (hj : j < k) : relabA L m keep k b = .at (m, 0) (j :: q) := by
  simp [relabA, h, hj]

theorem relabA_block [Use] {k b : Nat} (h : L b = .at (m, 0) []) : relabA L m true k b = .at (m, 0) [] := by
  simp [relabA, h]

/-- Where a label comes from. -/
theorem relabA_back [Use] {keep : Bool} {k b : Nat} {i : Id} {p : List Nat} (h : relabA L m keep k b = .at i p) :
    (i.1 ≠ m ∧ L b = .at i p) ∨ (i.1 = m ∧ i ≠ (m, 998) ∧ i ≠ (m, 0) ∧ L b = .at i p) ∨ (i = (m, 0) ∧ ∃ j q, p = (k + j) :: q ∧ L b = .at (m, 998) (j :: q)) ∨ (i = (m, 0) ∧ ∃ j q, p = j :: q ∧ j < k ∧ L b = .at (m, 0) (j :: q)) ∨
      (keep = true ∧ i = (m, 0) ∧ p = [] ∧ L b = .at (m, 0) []) := by
  unfold relabA at h
  cases hL : L b with
  | free => rw [hL] at h; cases h
  | prot => rw [hL] at h; cases h
  | «at» i' p' =>
    rw [hL] at h
    simp only at h
    by_cases h1 : i' = (m, 998)
    · subst h1
      rw [if_pos rfl] at h
      cases p' with
      | nil => cases h
      | cons j q =>
        cases h
        exact .inr (.inr (.inl ⟨rfl, j, q, rfl, rfl⟩))
    · rw [if_neg h1] at h
      by_cases h2 : i' = (m, 0)
      · subst h2
        rw [if_pos rfl] at h
        cases p' with
        | nil =>
          simp only at h
          cases keep with
          | true => simp at h; obtain ⟨rfl, rfl⟩ := h; exact .inr (.inr (.inr (.inr ⟨rfl, rfl, rfl, rfl⟩)))
          | false => simp at h
        | cons j q =>
          simp only at h
          by_cases hj : j < k
          · rw [if_pos hj] at h
            cases h
            exact .inr (.inr (.inr (.inl ⟨rfl, j, q, rfl, hj, rfl⟩)))
          · rw [if_neg hj] at h; cases h
      · rw [if_neg h2] at h
        cases h
        by_cases h3 : i.1 = m
        · exact .inr (.inl ⟨h3, h1, h2, rfl⟩)
        · exact .inl ⟨h3, rfl⟩

theorem relabA_prot [Use] {keep : Bool} {k : Nat} : ∀ b, L b = .prot → relabA L m keep k b = .prot ∧ w.heap[b]? = w.heap[b]? := by
  intro b hb
  exact ⟨by simp [relabA, hb], rfl⟩

theorem relabA_ok [Use] (h : HRel w0 L0 (addU U m) hp w L) (hm : ¬ U m) (hno : ∀ k, hp (m, k) = none) (keep : Bool) (k : Nat) :
    HRel w0 L0 (addU U m) hp w (relabA L m keep k) ∧ Keeps U w L hp U w (relabA L m keep k) hp := by
  have hfar : ∀ b i p, i.1 ≠ m → L b = .at i p → relabA L m keep k b = .at i p := by
    intro b i p hi hb
    rw [relabA_far, hb]
    intro c p' hc
    rw [hb] at hc
    cases hc
    exact hi rfl
  refine ⟨⟨fun i r hr => ?_, fun b b' i p hb hb' => ?_, fun b hb => ?_, fun b i p hb => ?_, h.usedR, fun b hb => ?_, h.size, h.os, h.tape, h.output, h.use, h.frz⟩, ⟨fun _ hk => hk, relabA_prot, fun i r hr _ => ⟨r, hr, fun _ => Nat.le_refl _⟩, fun i p v hu _ hn => ⟨hn, fun b hb => ⟨hfar b i p (by rintro rfl; exact hm hu) hb, fun cur e hc => ⟨cur, hc, rfl⟩⟩⟩⟩⟩
  · obtain ⟨u, hu⟩ := h.roots i r hr
    have him : i.1 ≠ m := by rintro rfl; have := hno i.2; rw [show ((i.1, i.2) : Id) = i from rfl, hr] at this; cases this
    exact ⟨u, Own.move relabA_prot _ [] [] u (fun b q hq => ⟨hfar b i _ him hq, rfl⟩) hu⟩
  · rcases relabA_back hb with ⟨e1, e2⟩ | ⟨e1, e2, e3, e4⟩ | ⟨rfl, j, q, rfl, e2⟩ | ⟨rfl, j, q, rfl, e1, e2⟩ | ⟨e0, rfl, rfl, e2⟩ <;>
      rcases relabA_back hb' with ⟨f1, f2⟩ | ⟨f1, f2, f3, f4⟩ | ⟨f0, j', q', f1, f2⟩ | ⟨f0, j', q', f1, f2, f3⟩ | ⟨f0, f1, f2, f3⟩
    · exact h.inj _ _ _ _ e2 f2
    · exact (e1 f1).elim
    · subst f0; exact (e1 rfl).elim
    · subst f0; exact (e1 rfl).elim
    · subst f1; exact (e1 rfl).elim
    · exact (f1 e1).elim
    · exact h.inj _ _ _ _ e4 f4
    · exact (e3 f0).elim
    · exact (e3 f0).elim
    · exact (e3 f1).elim
    · exact (f1 rfl).elim
    · exact (f3 rfl).elim
    · simp at f1
      obtain ⟨f1, rfl⟩ := f1
      obtain rfl : j' = j := by omega
      exact h.inj _ _ _ _ e2 f2
    · simp at f1
      omega
    · cases f2
    · exact (f1 rfl).elim
    · exact (f3 rfl).elim
    · simp at f1
      omega
    · simp at f1
      obtain ⟨rfl, rfl⟩ := f1
      exact h.inj _ _ _ _ e2 f3
    · cases f2
    · exact (f1 rfl).elim
    · exact (f3 rfl).elim
    · cases f1
    · cases f1
    · exact h.inj _ _ _ _ e2 f3
  · unfold relabA
    rw [h.free b hb]
  · rcases relabA_back hb with ⟨e1, e2⟩ | ⟨e1, _⟩ | ⟨rfl, _⟩ | ⟨rfl, _⟩ | ⟨_, rfl, _⟩
    · exact h.used b i p e2
    · exact .inr e1
    · exact .inr rfl
    · exact .inr rfl
    · exact .inr rfl
  · obtain ⟨e1, e2⟩ := h.prot b hb
    exact ⟨(relabA_prot (w := w) b e1).1, e2⟩

/-- A block that no root and nobody from before holds is written. -/
theorem setRow_ok [Use] {U' : Nat → Prop} (h : HRel w0 L0 U' hp w L) {g : Nat} {id : Id} {p : List Nat} (hg : L g = .at id p) (hno : ∀ r, hp id ≠ some r) (cur' : Array Value) :
    HRel w0 L0 U' hp (w.setRow g cur') L ∧ (∀ b, b ≠ g → (w.setRow g cur').heap[b]? = w.heap[b]?) := by
  have hwo : ∀ b', b' ≠ g → (w.setRow g cur').heap[b']? = w.heap[b']? := fun b' hb' => setRow_other w g b' cur' hb'
  have hwsz : (w.setRow g cur').heap.size = w.heap.size := by simp [World.setRow]
  have hprot : ∀ b, L b = .prot → L b = .prot ∧ (w.setRow g cur').heap[b]? = w.heap[b]? := fun b hb => ⟨hb, hwo b (by rintro rfl; rw [hg] at hb; cases hb)⟩
  refine ⟨⟨fun i r hr => ?_, h.inj, fun b hb => h.free b (by rwa [hwsz] at hb), h.used, h.usedR, fun b hb => ?_, by rw [hwsz]; exact h.size, h.os, h.tape, h.output, h.use, fun b c e f hb hc => by
    obtain ⟨c', hc'⟩ := setRow_frz hc
    exact h.frz b c' e f hb hc'⟩, hwo⟩
  · obtain ⟨u, hu⟩ := h.roots i r hr
    refine ⟨u, Own.move hprot _ [] [] u (fun b q hq => ⟨hq, hwo b ?_⟩) hu⟩
    rintro rfl
    rw [hg] at hq
    cases hq
    exact hno r hr
  · obtain ⟨e1, e2⟩ := h.prot b hb
    exact ⟨e1, (hprot b e1).2.trans e2⟩

/-- A root is added whose array is held already. -/
theorem addRoot [Use] {U' : Nat → Prop} (h : HRel w0 L0 U' hp w L) {id : Id} {r : Root} {u : Value} (hown : Own w L (.s true r.sz r.len r.cs) id [] u) (hU : U' id.1) : HRel w0 L0 U' (upd hp id (some r)) w L :=
  ⟨fun i r' hr' => by
    by_cases hi : i = id
    · subst hi; rw [upd_same] at hr'; cases hr'; exact ⟨u, hown⟩
    · rw [upd_ne _ _ _ _ hi] at hr'; exact h.roots i r' hr',
   h.inj, h.free, h.used, fun i r' hr' => by
    by_cases hi : i = id
    · subst hi; exact hU
    · rw [upd_ne _ _ _ _ hi] at hr'; exact h.usedR i r' hr', h.prot, h.size, h.os, h.tape, h.output, h.use, h.frz⟩

theorem ownL_append [Use] {id : Id} {p : List Nat} {xs ys : List A} {us vs : List Value} (hl : us.length = xs.length) (h1 : OwnL w L xs id p 0 us) (h2 : OwnL w L ys id p xs.length vs) : OwnL w L (xs ++ ys) id p 0 (us ++ vs) := by
  refine OwnL.intro _ _ _ fun j c hc => ?_
  by_cases hj : j < xs.length
  · rw [List.getElem?_append_left hj] at hc
    obtain ⟨u, e1, e2, e3⟩ := OwnL.get _ _ _ h1 j c hc
    exact ⟨u, by rw [List.getElem?_append_left (by omega)]; exact e1, e2, e3⟩
  · rw [List.getElem?_append_right (by omega)] at hc
    obtain ⟨u, e1, e2, e3⟩ := OwnL.get _ _ _ h2 (j - xs.length) c hc
    exact ⟨u, by rw [List.getElem?_append_right (by omega), hl]; exact e1, e2, by rwa [show 0 + j = xs.length + (j - xs.length) from by omega]⟩

theorem ownL_more [Use] {id : Id} {p : List Nat} {xs : List A} {us vs : List Value} (h1 : OwnL w L xs id p 0 us) : OwnL w L xs id p 0 (us ++ vs) := by
  refine OwnL.intro _ _ _ fun j c hc => ?_
  obtain ⟨u, e1, e2, e3⟩ := OwnL.get _ _ _ h1 j c hc
  exact ⟨u, by rw [List.getElem?_append_left (List.getElem?_eq_some_iff.1 e1).1]; exact e1, e2, e3⟩

end
end Go.TM
