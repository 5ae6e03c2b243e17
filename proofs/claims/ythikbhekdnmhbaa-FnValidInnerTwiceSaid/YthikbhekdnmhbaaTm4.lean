/- The tree machine, 4: the operations that leave the heap as it is, on the frame. -/
import Derived.Test.YthikbhekdnmhbaaTm3
import Derived.Great.BuildSlice
namespace Go.TM
set_option linter.unusedVariables false
set_option linter.unusedSimpArgs false

/-- The operation gives a value, and the world stays. -/
def PureOk [Use] (P : Program) (U : Nat → Prop) (w : World) (L : Lab) (hp : Hp) (a : Act) (o : Oper) (e : Eff) : Prop :=
  e.ups = [] ∧ ∃ v, (execOp a.eval o).run P w = .ok (.value v) w ∧ Rep U w L hp e.val v

section
variable {P : Program} {T : Nat → Option TI} {w0 : World} {L0 : Lab} {U : Nat → Prop} {w : World} {L : Lab} {hp : Hp} {sl : Nat → A} {a : Act} {o : Oper} {e : Eff}

theorem viewL_get [Use] (r : Root) (id : Id) (path : List Nat) (ver : Nat) : ∀ (xs : List A) (k j : Nat), (viewL r id path ver k xs)[j]? = (xs[j]?).map (view r id path ver (k + j))
  | [], _, _ => by simp [viewL]
  | x :: xs, k, 0 => by simp [viewL]
  | x :: xs, k, j + 1 => by
    simp only [viewL, List.getElem?_cons_succ]
    rw [viewL_get r id path ver xs (k + 1) j, show k + 1 + j = k + (j + 1) from by omega]

theorem viewL_length [Use] (r : Root) (id : Id) (path : List Nat) (ver : Nat) : ∀ (xs : List A) (k : Nat), (viewL r id path ver k xs).length = xs.length
  | [], _ => rfl
  | x :: xs, k => by simp [viewL, viewL_length r id path ver xs (k + 1)]

theorem node_root [Use] {id : Id} {path : List Nat} {ver : Nat} {r : Root} (hr : hp id = some r) (hn : node hp id path ver ≠ none) : verOk r path ver = true := by
  unfold node at hn
  rw [hr] at hn
  simp only at hn
  split at hn
  · assumption
  · exact (hn rfl).elim

theorem rep_view [Use] (h : HRel w0 L0 U hp w L) {id : Id} {path : List Nat} {ver k : Nat} {r : Root} {c : A} {u : Value} (hr : hp id = some r) (hv : verOk r path ver = true)
    (hc : Own w L c id (path ++ [k]) u) : Rep U w L hp (view r id path ver k c) u := by
  match c, hc with
  | .i kd n, hc => simpa [view, Rep, Own] using hc
  | .b v, hc => simpa [view, Rep, Own] using hc
  | .und, _ => simp [view, Rep]
  | .s false sz len cs, hc => simpa [view, Rep, Own] using hc
  | .s true sz len cs, hc =>
    simp only [view, Rep]
    refine ⟨h.usedR id r hr, ?_, ?_⟩
    · intro r' hr' c p hp'
      rw [hr] at hr'
      cases hr'
      cases path with
      | nil => simp at hp'; obtain ⟨rfl, rfl⟩ := hp'; exact Nat.le_refl _
      | cons c0 p0 => simp at hp'; obtain ⟨rfl, rfl⟩ := hp'; simp [verOk] at hv; simp [hv]
    · simp only [Own] at hc
      rcases hc with ⟨rfl, rfl, rfl⟩ | ⟨b, cur, e, cap, h1, h2, h3, h4, h5, h6, h7, h8⟩
      · exact ⟨none, 0, rfl, Nat.le_refl _, Nat.zero_le _, fun _ => .inl ⟨rfl, rfl, rfl⟩⟩
      · exact ⟨_, cap, h1, h5, h6, fun _ => .inr ⟨b, cur, e, rfl, h2, h3, by omega⟩⟩
  | .ref .., hc => simp [Own] at hc
  | .ptr .., hc => simp [Own] at hc
  | .ep _, hc => simp [Own] at hc
  | .agg _, hc => simp [Own] at hc
  | .tup _, hc => simp [Own] at hc

theorem rng_get [Use] (cs : List A) (off n j : Nat) : (rng cs off n)[j]? = if j < n then cs[off + j]? else none := by
  unfold rng
  rw [List.getElem?_take]
  split <;> simp

theorem cell_row {b k : Nat} {cur : Array Value} {e : Nat} (h : w.heap[b]? = some (.cells cur e (0, 0))) : w.cell? ⟨b, k, none⟩ = cur.toList[k]? := by
  simp [World.cell?, h]

theorem load_ok [Use] (hT : TabOk P T) (h : HRel w0 L0 U hp w L) {t : Nat} {ti : TI} (ht : T t = some ti) {x : A} {u : Value} (hx : Rep U w L hp x u) (he : loadA ti hp x = some e) :
    e.ups = [] ∧ ∃ v, (Instr.loadAt t u).run P w = .ok v w ∧ Rep U w L hp e.val v := by
  have hti := hT t ti ht
  unfold loadA at he
  split at he
  · rename_i id path ver off
    split at he
    · rename_i _ _ sz len cs r hn hr
      split at he
      · rename_i hb
        simp only [Option.map_eq_some_iff] at he
        obtain ⟨v, hv, rfl⟩ := he
        refine ⟨rfl, ?_⟩
        simp only [Rep] at hx
        obtain ⟨_, _, ad, rfl, hx⟩ := hx
        obtain ⟨b, rfl, hL⟩ := hx (by simp [hn])
        have hne : cs ≠ [] := by
          rintro rfl
          obtain ⟨u, hu⟩ := h.node hn
          simp only [Own] at hu
          rcases hu with ⟨_, rfl, _⟩ | ⟨b', cur, e, cap, h1, h2, h3, h4, h5, h6, h7, h8⟩
          · omega
          · simp at h7; omega
        obtain ⟨cur, e, cap, h3, h4, h5, h6, h7, h8⟩ := h.block hn hL hne
        have hcs : cap * sz ≥ len * sz := Nat.mul_le_mul_right _ h5
        have hl : cur.toList.length = cap * sz := by simpa using h4
        have hus : ((cur.toList.drop off).take ti.sz).length = ti.sz := by simp; omega
        obtain ⟨z, hz, hzr⟩ := run_loadVar' (P := P) (U := U) (w := w) (L := L) (hp := hp) hti (b := b) (k := off) hus (fun j v hj => by
          rw [cell_row h3]
          rw [List.getElem?_take] at hj
          split at hj
          · simpa using hj
          · cases hj) hv (repL_of (by rw [hus, viewL_length]; unfold rng; simp; omega) (fun j x v hx hv' => by
            rw [viewL_get, rng_get] at hx
            rw [List.getElem?_take] at hv'
            split at hv'
            · rename_i hj
              rw [if_pos hj] at hx
              simp only [Option.map_eq_some_iff] at hx
              obtain ⟨c, hc, rfl⟩ := hx
              obtain ⟨u', e1, e2, e3⟩ := OwnL.get cs 0 _ h8 (off + j) c hc
              rw [List.getElem?_drop, e1] at hv'
              cases hv'
              exact rep_view h hr (node_root hr (by simp [hn])) (by simpa using e3)
            · cases hv'))
        exact ⟨z, by simp [Instr.loadAt, Instr.sureAddr, hz], hzr⟩
      · cases he
    · cases he
  · rename_i cs
    split at he
    · rename_i hb
      simp only [Option.map_eq_some_iff] at he
      obtain ⟨v, hv, rfl⟩ := he
      refine ⟨rfl, ?_⟩
      simp only [Rep] at hx
      obtain ⟨ad, rfl, hs, hx⟩ := hx
      rcases hx with rfl | ⟨hp1, hx⟩
      · simp at hb; omega
      · obtain ⟨us, e1, e2, e3⟩ := ImmL.vals _ _ (ImmL.take ti.sz cs ad.off hx)
        obtain ⟨z, hz, hzr⟩ := run_loadVar' (P := P) (U := U) (w := w) (L := L) (hp := hp) hti (b := ad.block) (k := ad.off) (us := us) (by rw [e1]; simp; omega) (fun j v hj => (e2 j v hj).1) hv
          (repL_of (by rw [e1]; simp) (fun j x v hx' hv' => by
            rw [List.getElem?_map] at hx'
            simp only [Option.map_eq_some_iff] at hx'
            obtain ⟨c, hc, rfl⟩ := hx'
            exact rep_imm1 (e3 j c v hc hv')))
        refine ⟨z, ?_, hzr⟩
        have had : ad = ⟨ad.block, ad.off, none⟩ := by cases ad; simp_all
        rw [had]
        simp [Instr.loadAt, Instr.sureAddr, hz]
    · cases he
  · cases he

theorem eff_load [Use] (hT : TabOk P T) (h : HRel w0 L0 U hp w L) (hs : Slots U w L hp sl a.tmps) {t : Nat} {x : Operand} (ho : o.op = .load t x)
    (he : (match T t with | some ti => loadA ti hp (ev T sl 0 x) | none => none) = some e) : PureOk P U w L hp a o e := by
  split at he
  · rename_i ti ht
    obtain ⟨h1, v, h2, h3⟩ := load_ok hT h ht (rep_ev (T := T) hs 0 x) he
    exact ⟨h1, v, by simp [execOp, ho, h2], h3⟩
  · cases he

theorem valid_ptr [Use] {id : Id} {path : List Nat} {ver off : Nat} {u : Value} (hx : Rep U w L hp (.ptr id path ver off) u) (hn : node hp id path ver ≠ none) :
    U id.1 ∧ verLe hp id path ver ∧ ∃ b, u = .pointer (some ⟨b, off, none⟩) ∧ L b = .at id path := by
  simp only [Rep] at hx
  obtain ⟨h1, h2, ad, rfl, h3⟩ := hx
  obtain ⟨b, rfl, h4⟩ := h3 hn
  exact ⟨h1, h2, b, rfl, h4⟩

theorem rep_ptr [Use] {id : Id} {path : List Nat} {ver off b : Nat} (h1 : U id.1) (h2 : verLe hp id path ver) (h3 : L b = .at id path) : Rep U w L hp (.ptr id path ver off) (.pointer (some ⟨b, off, none⟩)) := by
  simp only [Rep]
  exact ⟨h1, h2, _, rfl, fun _ => ⟨b, rfl, h3⟩⟩

theorem eff_fieldAddr [Use] (hT : TabOk P T) (hs : Slots U w L hp sl a.tmps) {s f : Nat} {x : Operand} (ho : o.op = .fieldAddr s x f)
    (he : (match kindOf T s with
      | .struct fs => match fs[f]?, ev T sl 0 x with
        | some (off, _), .ptr id path ver o => match node hp id path ver with
          | some _ => some (⟨.ptr id path ver (o + off), [], [id]⟩ : Eff)
          | none => none
        | some (off, _), .ep cs => some (.pure (.ep (cs.drop off)))
        | _, _ => none
      | _ => none) = some e) : PureOk P U w L hp a o e := by
  split at he
  · rename_i fs hk
    obtain ⟨fields, hu, rfl, hsz⟩ := hT.struct hk
    have hx := rep_ev (T := T) hs 0 x
    have key : ∀ (off ft : Nat) (ad : Addr), (fields.toList.map (fun f => (f.offset, f.type)))[f]? = some (off, ft) → a.eval x = .pointer (some ad) → (execOp a.eval o).run P w = .ok (.value (.pointer (some (ad.add off)))) w := by
      intro off ft ad hf hx'
      rw [List.getElem?_map] at hf
      simp only [Option.map_eq_some_iff] at hf
      obtain ⟨fd, hfd, h2⟩ := hf
      cases h2
      have hfd' : fields[f]? = some fd := by simpa using hfd
      obtain ⟨i, hi, hi0⟩ := hsz fd (List.mem_of_getElem? hfd)
      simp [execOp, ho, Instr.fieldAt, run_underlying hu, hfd', Instr.sureAddr, hx', fieldPlace, sizeOf, typeInfo, hi, hi0]
    split at he
    · rename_i off ft id path ver o' hf hev
      split at he
      · rename_i nn hn
        cases he
        rw [hev] at hx
        obtain ⟨h1, h2, b, h3, h4⟩ := valid_ptr hx (by simp [hn])
        refine ⟨rfl, _, key off ft _ hf h3, ?_⟩
        rw [add_lit]
        exact rep_ptr h1 h2 h4
      · cases he
    · rename_i off ft cs hf hev
      cases he
      rw [hev] at hx
      simp only [Rep] at hx
      obtain ⟨ad, h1, h2, h3⟩ := hx
      refine ⟨rfl, _, key off ft _ hf h1, ?_⟩
      simp only [Eff.pure, Rep]
      have had : ad = ⟨ad.block, ad.off, none⟩ := by cases ad; simp_all
      rw [had, add_lit]
      refine ⟨_, rfl, rfl, ?_⟩
      rcases h3 with rfl | ⟨h4, h5⟩
      · exact .inl (by simp)
      · exact .inr ⟨h4, ImmL.drop off cs ad.off h5⟩
    · cases he
  · cases he

theorem run_szOf [Use] (hT : TabOk P T) {e sz : Nat} (h : szOf T e = some sz) : (sizeOf e).run P w = .ok sz w := by
  unfold szOf at h
  simp only [Option.map_eq_some_iff] at h
  obtain ⟨ti, h1, rfl⟩ := h
  exact run_sizeOf' (hT e ti h1)

theorem eff_indexAddr [Use] (hT : TabOk P T) (h : HRel w0 L0 U hp w L) (hs : Slots U w L hp sl a.tmps) {t : Nat} {x ix : Operand} (ho : o.op = .indexAddr t x ix)
    (he : indexAddrA T (kindOf T t) hp (ev T sl 0 x) (ev T sl 0 ix) = some e) : PureOk P U w L hp a o e := by
  have hx := rep_ev (T := T) hs 0 x
  have hi := rep_ev (T := T) hs 0 ix
  unfold indexAddrA at he
  split at he
  · rename_i el id path ver off sz len n hk hex hei
    have hu := hT.slice hk
    rw [hex] at hx
    rw [hei] at hi
    obtain ⟨hi, wi⟩ := rep_i hi
    split at he
    · rename_i nsz nlen ncs hn
      split at he
      · rename_i hc
        cases he
        simp only [Rep] at hx
        obtain ⟨h1, h2, ao, cap, h3, h4, h5, h6⟩ := hx
        rcases h6 (by simp [hn]) with ⟨rfl, rfl, rfl⟩ | ⟨b, cur, ee, rfl, h7, h8, h9⟩
        · omega
        · refine ⟨rfl, .pointer (some ⟨b, off + n.toNat * sz, none⟩), ?_, rep_ptr h1 h2 h7⟩
          simp [execOp, ho, h3, hi, Instr.indexAt, asIntOf, run_underlying hu, hc.2.1, hc.2.2, run_szOf hT hc.1, add_lit]
      · cases he
    · cases he
  · rename_i el o' sz len cs n hk hex hei
    have hu := hT.slice hk
    rw [hex] at hx
    rw [hei] at hi
    obtain ⟨hi, wi⟩ := rep_i hi
    split at he
    · rename_i hc
      cases he
      cases o' with
      | true =>
        simp only [Rep] at hx
        obtain ⟨_, rfl, _⟩ := hx
        omega
      | false =>
        simp only [Rep, Imm] at hx
        obtain ⟨ao, cap, h1, h2, h3, h4, h5⟩ := hx
        have hsz : n.toNat * sz + sz ≤ cs.length := by
          rw [h4]
          have : (n.toNat + 1) * sz ≤ len * sz := Nat.mul_le_mul_right _ (by omega)
          rw [Nat.add_mul] at this
          omega
        rcases h5 with rfl | ⟨ad, rfl, e1, e2, e3⟩
        · simp at hsz; omega
        · have had : ad = ⟨ad.block, ad.off, none⟩ := by cases ad; simp_all
          refine ⟨rfl, .pointer (some (ad.add (n.toNat * sz))), ?_, ?_⟩
          · simp [execOp, ho, h1, hi, Instr.indexAt, asIntOf, run_underlying hu, hc.2.2.1, hc.2.2.2, run_szOf hT hc.2.1]
          · simp only [Eff.pure, Rep]
            rw [had, add_lit]
            exact ⟨_, rfl, rfl, .inr ⟨e2, ImmL.drop _ cs ad.off e3⟩⟩
    · cases he
  · rename_i cnt el id path ver off n hk hex hei
    have hu := hT.array hk
    rw [hex] at hx
    rw [hei] at hi
    obtain ⟨hi, wi⟩ := rep_i hi
    split at he
    · rename_i ti nn ht hn
      split at he
      · rename_i hc
        cases he
        obtain ⟨h1, h2, b, h3, h4⟩ := valid_ptr hx (by simp [hn])
        refine ⟨rfl, .pointer (some ⟨b, off + n.toNat * ti.sz, none⟩), ?_, rep_ptr h1 h2 h4⟩
        simp [execOp, ho, h3, hi, Instr.indexAt, asIntOf, run_underlying hu, Instr.sureAddr, hc.1, hc.2, run_sizeOf' (hT el ti ht), add_lit]
      · cases he
    · cases he
  · cases he

theorem bound_some [Use] {x : Option A} {l : Nat} {d : Nat} (h : boundA d x = some l) : (x = none ∧ l = d) ∨ ∃ n : Int, x = some (.i .i64 n) ∧ 0 ≤ n ∧ l = n.toNat := by
  unfold boundA at h
  split at h
  · cases h; exact .inl ⟨rfl, rfl⟩
  · split at h
    · rename_i n hn
      cases h
      exact .inr ⟨n, rfl, hn, rfl⟩
    · cases h
  · cases h

/-- The bounds of a slice expression, where they hold. -/
theorem run_bounds [Use] (hs : Slots U w L hp sl a.tmps) {lo hi : Option Operand} {l h len cap : Nat} (hlo : boundA 0 (lo.map (ev T sl 0)) = some l) (hhi : boundA len (hi.map (ev T sl 0)) = some h) (h1 : l ≤ h) (h2 : h ≤ len) (h3 : len ≤ cap) :
    (Instr.sliceBounds true len cap (lo.map a.eval) (hi.map a.eval) none).run P w = .ok (l, h, cap) w := by
  have key : ∀ (x : Operand) (n : Int) (y : Nat) (code : BoundsCode), ev T sl 0 x = .i .i64 n → 0 ≤ n → n.toNat ≤ y → (Instr.sliceBound (a.eval x) y code).run P w = .ok n.toNat w := by
    intro x n y code hx h0 hy
    have := rep_ev (T := T) hs 0 x
    rw [hx] at this
    obtain ⟨h4, _⟩ := rep_i this
    have h5 : n ≤ (y : Int) := by omega
    simp [Instr.sliceBound, asIntOf, h4, h0, h5]
  unfold Instr.sliceBounds
  rcases bound_some hlo with ⟨hl0, rfl⟩ | ⟨n, hn, hn0, rfl⟩
  · have : lo = none := by cases lo <;> simp_all
    subst this
    rcases bound_some hhi with ⟨hh0, rfl⟩ | ⟨m, hm, hm0, rfl⟩
    · have : hi = none := by cases hi <;> simp_all
      subst this
      simp
    · cases hi with
      | none => simp at hm
      | some x =>
        simp only [Option.map_some, Option.some.injEq] at hm
        have k1 := key x m cap .sliceAcap hm hm0 (by omega)
        simp [k1]
  · cases lo with
    | none => simp at hn
    | some y =>
      simp only [Option.map_some, Option.some.injEq] at hn
      rcases bound_some hhi with ⟨hh0, rfl⟩ | ⟨m, hm, hm0, rfl⟩
      · have : hi = none := by cases hi <;> simp_all
        subst this
        have k1 := key y n h .sliceB hn hn0 h1
        simp [k1]
      · cases hi with
        | none => simp at hm
        | some x =>
          simp only [Option.map_some, Option.some.injEq] at hm
          have k1 := key x m cap .sliceAcap hm hm0 (by omega)
          have k2 := key y n m.toNat .sliceB hn hn0 h1
          simp [k1, k2]

theorem imm_empty [Use] {Q : Nat → Prop} {sz cap : Nat} {ao : Option Addr} (h : cap ≤ maxLen) : Imm w Q (.s false sz 0 []) (.slice ao 0 cap) := by
  simp only [Imm]
  exact ⟨ao, cap, rfl, Nat.zero_le _, h, by simp, .inl trivial⟩

theorem ImmL.rng [Use] {Q : Nat → Prop} {b : Nat} (cs : List A) (k off n : Nat) (h : ImmL w Q cs b k) : ImmL w Q (TM.rng cs off n) b (k + off) := ImmL.take n _ _ (ImmL.drop off cs k h)

theorem eff_slice [Use] (hT : TabOk P T) (hs : Slots U w L hp sl a.tmps) {t : Nat} {x : Operand} {lo hi mx : Option Operand} (ho : o.op = .slice t x lo hi mx)
    (he : (match kindOf T t, mx with
      | .slice e, none => sliceA (szOf T e) (ev T sl 0 x) (lo.map (ev T sl 0)) (hi.map (ev T sl 0))
      | _, _ => none) = some e) : PureOk P U w L hp a o e := by
  split at he
  · rename_i el ho hk
    have hu := hT.slice hk
    have hx := rep_ev (T := T) hs 0 x
    have hrun : ∀ (ao : Option Addr) (len cap l h sz : Nat), a.eval x = .slice ao len cap → (Instr.sliceBounds true len cap (lo.map a.eval) (hi.map a.eval) none).run P w = .ok (l, h, cap) w → szOf T el = some sz →
        (execOp a.eval o).run P w = .ok (.value (.slice (if cap = l then ao else ao.map (·.add (l * sz))) (h - l) (cap - l))) w := by
      intro ao len cap l h sz h1 h2 h3
      simp [execOp, ho, Instr.sliceAt, run_underlying hu, Instr.slice, h1, h2, run_szOf hT h3]
    unfold sliceA at he
    split at he
    · rename_i id path ver off sz len hex
      split at he
      · rename_i l h hl hh
        split at he
        · rename_i hc
          cases he
          rw [hex] at hx
          simp only [Rep] at hx
          obtain ⟨h1, h2, ao, cap, h3, h4, h5, h6⟩ := hx
          refine ⟨rfl, _, hrun ao len cap l h sz h3 (run_bounds (T := T) hs hl hh hc.2.1 hc.2.2 h4) hc.1, ?_⟩
          simp only [Eff.pure]
          split
          · rename_i h0
            rw [h0]
            simp only [Rep]
            exact imm_empty (by omega)
          · rename_i h0
            simp only [Rep]
            refine ⟨h1, h2, _, cap - l, rfl, by omega, by omega, fun hn => ?_⟩
            rcases h6 hn with ⟨rfl, rfl, rfl⟩ | ⟨b, cur, ee, rfl, h7, h8, h9⟩
            · omega
            · refine .inr ⟨b, cur, ee, ?_, h7, h8, ?_⟩
              · rw [if_neg (by omega)]
                simp [add_lit]
              · rw [← h9, Nat.sub_mul, Nat.add_assoc]
                have := Nat.mul_le_mul_right sz (show l ≤ cap by omega)
                omega
        · cases he
      · cases he
    · rename_i o' sz len cs hex
      split at he
      · rename_i l h hl hh
        split at he
        · rename_i hc
          cases he
          rw [hex] at hx
          have hx' : ∃ ao cap, a.eval x = .slice ao len cap ∧ len ≤ cap ∧ cap ≤ maxLen ∧ cs.length = len * sz ∧
              (cs = [] ∨ ∃ ad : Addr, ao = some ad ∧ ad.spot = none ∧ isProt L ad.block ∧ ImmL w (isProt L) cs ad.block ad.off) := by
            cases o' with
            | true =>
              simp only [Rep] at hx
              obtain ⟨h1, rfl, rfl⟩ := hx
              exact ⟨none, 0, h1, by simp, by simp, by simp, .inl rfl⟩
            | false => simpa only [Rep, Imm] using hx
          obtain ⟨ao, cap, h1, h2, h3, h4, h5⟩ := hx'
          refine ⟨rfl, _, hrun ao len cap l h sz h1 (run_bounds (T := T) hs hl hh hc.2.1 hc.2.2 h2) hc.1, ?_⟩
          simp only [Eff.pure, Rep, Imm]
          have hle : l * sz + (h - l) * sz ≤ cs.length := by
            rw [h4, ← Nat.add_mul]
            exact Nat.mul_le_mul_right _ (by omega)
          refine ⟨_, cap - l, rfl, by omega, by omega, by unfold rng; simp; omega, ?_⟩
          rcases h5 with rfl | ⟨ad, rfl, e1, e2, e3⟩
          · exact .inl (by simp [rng])
          · by_cases hcl : cap = l
            · left
              have : h - l = 0 := by omega
              simp [rng, this]
            · right
              rw [if_neg hcl]
              have had : ad = ⟨ad.block, ad.off, none⟩ := by cases ad; simp_all
              rw [had]
              simp only [Option.map_some, add_lit]
              exact ⟨_, rfl, rfl, e2, ImmL.rng cs ad.off _ _ e3⟩
        · cases he
      · cases he
    · cases he
  · cases he

theorem rep_slice_len [Use] {x r : A} {u : Value} (hx : Rep U w L hp x u) (h : lenA x = some r) : ∃ ao len cap, u = .slice ao len cap ∧ r = .i .i64 len ∧ (Lit.int .i64 (len : Int)).wf = true := by
  have wfl : ∀ len cap : Nat, len ≤ cap → cap ≤ maxLen → (Lit.int .i64 (len : Int)).wf = true := by
    intro len cap h1 h2
    simp only [maxLen] at h2
    simp [Lit.wf, IntKind.min, IntKind.max, IntKind.signed, IntKind.bits]
    omega
  unfold lenA at h
  split at h
  · rename_i o' sz len cs
    cases h
    cases o' with
    | true =>
      simp only [Rep] at hx
      obtain ⟨rfl, rfl, rfl⟩ := hx
      exact ⟨none, 0, 0, rfl, rfl, by decide⟩
    | false =>
      simp only [Rep, Imm] at hx
      obtain ⟨ao, cap, h1, h2, h3, _⟩ := hx
      exact ⟨ao, len, cap, h1, rfl, wfl _ _ h2 h3⟩
  · cases h
    simp only [Rep] at hx
    obtain ⟨_, _, ao, cap, h1, h2, h3, _⟩ := hx
    exact ⟨ao, _, cap, h1, rfl, wfl _ _ h2 h3⟩
  · cases h

theorem eff_len [Use] (hT : TabOk P T) (hs : Slots U w L hp sl a.tmps) {c : Call} (ho : o.op = .call c) (hb : c.callee = .builtin .len)
    (he : (match c.args.toList with
      | [x] => match (c.argTypes[0]?).map (kindOf T) with
        | some (.slice _) => (lenA (ev T sl 0 x)).map Eff.pure
        | _ => none
      | _ => none) = some e) : PureOk P U w L hp a o e := by
  split at he
  · rename_i x hargs
    split at he
    · rename_i el hk
      simp only [Option.map_eq_some_iff] at hk he
      obtain ⟨t, ht, hk⟩ := hk
      obtain ⟨r, hr, rfl⟩ := he
      have hu := hT.slice hk
      obtain ⟨ao, len, cap, h1, rfl, h2⟩ := rep_slice_len (rep_ev (T := T) hs 0 x) hr
      refine ⟨rfl, .int .i64 len, ?_, by simp [Eff.pure, Rep, h2]⟩
      have ha : c.args = #[x] := by cases hc : c.args; simp_all
      simp [execOp, ho, resolve, hb, ha, invoke, builtin, Builtin.len_, ht, run_underlying hu, h1, goInt]
    · cases he
  · cases he

theorem eff_max [Use] (hs : Slots U w L hp sl a.tmps) {c : Call} (ho : o.op = .call c) (hb : c.callee = .builtin .max)
    (he : (match c.args.toList with
      | [x, y] => match ev T sl 0 x, ev T sl 0 y with
        | .i .i64 a, .i .i64 b => some (.pure (.i .i64 (if b > a then b else a)))
        | _, _ => none
      | _ => none) = some e) : PureOk P U w L hp a o e := by
  split at he
  · rename_i x y hargs
    split at he
    · rename_i n m hx hy
      cases he
      have h1 := rep_ev (T := T) hs 0 x
      have h2 := rep_ev (T := T) hs 0 y
      rw [hx] at h1
      rw [hy] at h2
      obtain ⟨h1, w1⟩ := rep_i h1
      obtain ⟨h2, w2⟩ := rep_i h2
      refine ⟨rfl, .int .i64 (if m > n then m else n), ?_, ?_⟩
      · have ha : c.args = #[x, y] := by cases hc : c.args; simp_all
        simp [execOp, ho, resolve, hb, ha, invoke, builtin, Builtin.max_, Builtin.max2, h1, h2]
      · simp only [Eff.pure, Rep]
        exact ⟨trivial, by split <;> assumption⟩
    · cases he
  · cases he

theorem eff_move [Use] (hs : Slots U w L hp sl a.tmps) {ty : Nat} {x : Operand} (ho : o.op = .move x ∨ o.op = .assign x) (he : some (Eff.pure (ev T sl ty x)) = some e) : PureOk P U w L hp a o e := by
  cases he
  refine ⟨rfl, a.eval x, ?_, rep_ev hs ty x⟩
  rcases ho with ho | ho <;> simp [execOp, ho]

theorem eff_pick [Use] (hs : Slots U w L hp sl a.tmps) {ty : Nat} {c x y : Operand} (ho : o.op = .pick c x y)
    (he : (match ev T sl 0 c with
    | .b t => some (Eff.pure (if t then ev T sl ty x else ev T sl ty y))
    | _ => none) = some e) : PureOk P U w L hp a o e := by
  split at he
  · rename_i t hc
    cases he
    have h1 := rep_ev (T := T) hs 0 c
    rw [hc] at h1
    have h1 := rep_b h1
    refine ⟨rfl, if t then a.eval x else a.eval y, by simp [execOp, ho, h1, asBool], ?_⟩
    simp only [Eff.pure]
    cases t
    · simpa using rep_ev hs ty y
    · simpa using rep_ev hs ty x
  · cases he

theorem eff_extract [Use] (hs : Slots U w L hp sl a.tmps) {x : Operand} {ix : Nat} (ho : o.op = .extract x ix)
    (he : (match ev T sl 0 x with
    | .tup xs => (xs[ix]?).map Eff.pure
    | _ => none) = some e) : PureOk P U w L hp a o e := by
  split at he
  · rename_i xs hx
    simp only [Option.map_eq_some_iff] at he
    obtain ⟨r, hr, rfl⟩ := he
    have h1 := rep_ev (T := T) hs 0 x
    rw [hx] at h1
    simp only [Rep] at h1
    obtain ⟨us, h2, h3⟩ := h1
    obtain ⟨u, e1, e2⟩ := (repL_get h3).2 ix r hr
    have e1' : us[ix]? = some u := by simpa using e1
    exact ⟨rfl, u, by simp [execOp, ho, Instr.extract, h2, e1'], e2⟩
  · cases he

theorem repL_rng [Use] {xs : List A} {us : List Value} (h : RepL U w L hp xs us) (off n : Nat) : RepL U w L hp (rng xs off n) ((us.drop off).take n) := by
  obtain ⟨h1, h2⟩ := repL_get h
  refine repL_of (by unfold rng; simp [h1]) fun j x u hx hu => ?_
  rw [rng_get] at hx
  rw [List.getElem?_take] at hu
  split at hx
  · rename_i hj
    rw [if_pos hj, List.getElem?_drop] at hu
    obtain ⟨v, e1, e2⟩ := h2 (off + j) x hx
    rw [e1] at hu
    cases hu
    exact e2
  · cases hx

theorem eff_field [Use] (hT : TabOk P T) (hs : Slots U w L hp sl a.tmps) {s f : Nat} {x : Operand} (ho : o.op = .field s x f)
    (he : (match kindOf T s, ev T sl 0 x with
    | .struct fs, .agg xs => match fs[f]? with
      | some (off, ft) => match T ft with
        | some ti => (packA ti (rng xs off ti.sz)).map Eff.pure
        | none => none
      | none => none
    | _, _ => none) = some e) : PureOk P U w L hp a o e := by
  split at he
  · rename_i fs xs hk hx
    obtain ⟨fields, hu, rfl, hsz⟩ := hT.struct hk
    have h1 := rep_ev (T := T) hs 0 x
    rw [hx] at h1
    simp only [Rep] at h1
    obtain ⟨us, h2, h3⟩ := h1
    split at he
    · rename_i off ft hf
      rw [List.getElem?_map] at hf
      simp only [Option.map_eq_some_iff] at hf
      obtain ⟨fd, hfd, h4⟩ := hf
      cases h4
      have hfd' : fields[f]? = some fd := by simpa using hfd
      split at he
      · rename_i ti ht
        simp only [Option.map_eq_some_iff] at he
        obtain ⟨r, hr, rfl⟩ := he
        have hti := hT _ ti ht
        refine ⟨rfl, ?_⟩
        have hrr := repL_rng h3 fd.offset ti.sz
        unfold packA at hr
        split at hr
        · rename_i hlen
          split at hr
          · rename_i hag
            cases hr
            refine ⟨.agg (us.extract fd.offset (fd.offset + ti.sz)), ?_, ?_⟩
            · simp [execOp, ho, Instr.field, run_underlying hu, hfd', part, run_isAgg hti, hag, run_sizeOf' hti, h2, asAgg]
            · simp only [Eff.pure, Rep]
              refine ⟨_, rfl, ?_⟩
              have : (us.extract fd.offset (fd.offset + ti.sz)).toList = (us.toList.drop fd.offset).take ti.sz := by
                simp [List.extract_eq_take_drop]
              rw [this]
              exact hrr
          · rename_i hag
            obtain ⟨u, e1, e2⟩ := (repL_get hrr).2 0 r hr
            have e1' : us[fd.offset]? = some u := by
              rw [List.getElem?_take] at e1
              split at e1
              · simpa using e1
              · cases e1
            refine ⟨u, ?_, e2⟩
            simp [execOp, ho, Instr.field, run_underlying hu, hfd', part, run_isAgg hti, hag, h2, asAgg, e1']
        · cases hr
      · cases he
    · cases he
  · cases he

theorem eff_nilCheck [Use] (hs : Slots U w L hp sl a.tmps) {x : Operand} (ho : o.op = .nilCheck x)
    (he : (match ev T sl 0 x with
    | .ptr id path ver o => match node hp id path ver with
      | some _ => some (⟨.ptr id path ver o, [], [id]⟩ : Eff)
      | none => none
    | .ep cs => some (.pure (.ep cs))
    | _ => none) = some e) : PureOk P U w L hp a o e := by
  have h1 := rep_ev (T := T) hs 0 x
  split at he
  · rename_i id path ver off hx
    rw [hx] at h1
    split at he
    · rename_i nn hn
      cases he
      obtain ⟨e1, e2, b, e3, e4⟩ := valid_ptr h1 (by simp [hn])
      exact ⟨rfl, .pointer (some ⟨b, off, none⟩), by simp [execOp, ho, e3], rep_ptr e1 e2 e4⟩
    · cases he
  · rename_i cs hx
    cases he
    rw [hx] at h1
    have h2 := h1
    simp only [Rep] at h1
    obtain ⟨ad, e1, e2, e3⟩ := h1
    refine ⟨rfl, .pointer (some ad), by simp [execOp, ho, e1], ?_⟩
    rw [e1] at h2
    exact h2
  · cases he

theorem eff_binOp [Use] (hT : TabOk P T) (hs : Slots U w L hp sl a.tmps) {op : BinOp} {t t' : Nat} {x y : Operand} (ho : o.op = .binOp op t x y t')
    (he : (binA (kindOf T t) op (ev T sl 0 x) (ev T sl 0 y)).map Eff.pure = some e) : PureOk P U w L hp a o e := by
  simp only [Option.map_eq_some_iff] at he
  obtain ⟨r, hr, rfl⟩ := he
  obtain ⟨h1, h2⟩ := run_binA (P := P) hT op t (rep_ev (T := T) hs 0 x) (rep_ev (T := T) hs 0 y) hr x y
  refine ⟨rfl, valS r, ?_, h2⟩
  unfold execOp
  simp only [ho]
  rw [Sem.run_bind, h1]
  simp

theorem eff_unOp [Use] (hs : Slots U w L hp sl a.tmps) {op : UnOp} {t : Nat} {x : Operand} (ho : o.op = .unOp op t x)
    (he : (unA op (ev T sl 0 x)).map Eff.pure = some e) : PureOk P U w L hp a o e := by
  simp only [Option.map_eq_some_iff] at he
  obtain ⟨r, hr, rfl⟩ := he
  obtain ⟨h1, h2⟩ := run_unA (P := P) op (rep_ev (T := T) hs 0 x) hr
  exact ⟨rfl, valS r, by simp [execOp, ho, h1], h2⟩

theorem kindOf_int [Use] (hT : TabOk P T) {t : Nat} {k : IntKind} (h : kindOf T t = .int k) : P.underlying t = some (.int k) := by
  unfold kindOf at h
  split at h
  · rename_i ti ht
    have := (hT t ti ht).kind
    rw [h] at this
    exact this
  · cases h

theorem eff_convert [Use] (hT : TabOk P T) (hs : Slots U w L hp sl a.tmps) {src dst : Nat} {x : Operand} (ho : o.op = .convert src dst x)
    (he : (match kindOf T src, kindOf T dst, ev T sl 0 x with
    | .int _, .int k, .i _ n => some (Eff.pure (.i k (k.wrap n)))
    | _, _, _ => none) = some e) : PureOk P U w L hp a o e := by
  split at he
  · rename_i ks k k' n h1 h2 hx
    cases he
    have h3 := rep_ev (T := T) hs 0 x
    rw [hx] at h3
    obtain ⟨h3, w3⟩ := rep_i h3
    refine ⟨rfl, .int k (k.wrap n), ?_, by simp only [Eff.pure, Rep]; exact ⟨trivial, wf_wrap _ _⟩⟩
    simp [execOp, ho, convert, run_underlying (kindOf_int hT h1), run_underlying (kindOf_int hT h2), h3, Conv.intToInt]
  · cases he

/-- A value's cells. -/
theorem rep_cells [Use] {x : A} {u : Value} (hx : Rep U w L hp x u) (hk : okPart x = true) : RepL U w L hp (cellsA x) u.cells.toList := by
  match x, hx, hk with
  | .agg xs, hx, _ =>
    simp only [Rep] at hx
    obtain ⟨us, rfl, h⟩ := hx
    simpa [cellsA, Value.cells] using h
  | .i k n, hx, _ => obtain ⟨rfl, h⟩ := rep_i hx; simp [cellsA, Value.cells, RepL, hx]
  | .b v, hx, _ => obtain rfl := rep_b hx; simp [cellsA, Value.cells, RepL, hx]
  | .s true sz len cs, hx, _ =>
    have h := hx
    simp only [Rep] at h
    obtain ⟨rfl, _, _⟩ := h
    simp only [cellsA, Value.cells, RepL, and_true]
    exact hx
  | .s false sz len cs, hx, _ =>
    have h := hx
    simp only [Rep, Imm] at h
    obtain ⟨ao, cap, rfl, _⟩ := h
    simp only [cellsA, Value.cells, RepL, and_true]
    exact hx
  | .ref .., hx, _ =>
    have h := hx
    simp only [Rep] at h
    obtain ⟨_, _, ao, cap, rfl, _⟩ := h
    simp only [cellsA, Value.cells, RepL, and_true]
    exact hx
  | .ptr .., hx, _ =>
    have h := hx
    simp only [Rep] at h
    obtain ⟨_, _, ad, rfl, _⟩ := h
    simp only [cellsA, Value.cells, RepL, and_true]
    exact hx
  | .ep cs, hx, _ =>
    have h := hx
    simp only [Rep] at h
    obtain ⟨ad, rfl, _⟩ := h
    simp only [cellsA, Value.cells, RepL, and_true]
    exact hx
  | .und, _, hk => simp [okPart] at hk
  | .tup _, _, hk => simp [okPart] at hk

theorem repL_put [Use] {xs vs : List A} {us ns : List Value} (h : RepL U w L hp xs us) (hv : RepL U w L hp vs ns) (off : Nat) (hb : off + vs.length ≤ xs.length) {out : List Value} (hol : out.length = us.length)
    (ho : ∀ k, out[k]? = if off ≤ k ∧ k < off + ns.length then ns[k - off]? else us[k]?) : RepL U w L hp (xs.take off ++ vs ++ xs.drop (off + vs.length)) out := by
  obtain ⟨h1, h2⟩ := repL_get h
  obtain ⟨h3, h4⟩ := repL_get hv
  refine repL_of (by simp; omega) fun j x u hx hu => ?_
  rw [ho j] at hu
  by_cases h5 : off ≤ j ∧ j < off + ns.length
  · rw [if_pos h5] at hu
    have : (xs.take off ++ vs ++ xs.drop (off + vs.length))[j]? = vs[j - off]? := by
      rw [List.append_assoc, List.getElem?_append_right (by simp; omega), List.getElem?_append_left (by simp; omega)]
      congr 1
      simp
      omega
    rw [this] at hx
    obtain ⟨v, e1, e2⟩ := h4 _ x hx
    rw [e1] at hu
    cases hu
    exact e2
  · rw [if_neg h5] at hu
    have : (xs.take off ++ vs ++ xs.drop (off + vs.length))[j]? = xs[j]? := by
      by_cases h6 : j < off
      · rw [List.append_assoc, List.getElem?_append_left (by simp; omega)]
        simp [List.getElem?_take, h6]
      · rw [List.getElem?_append_right (by simp; omega)]
        simp
        congr 1
        omega
    rw [this] at hx
    obtain ⟨v, e1, e2⟩ := h2 _ x hx
    rw [e1] at hu
    cases hu
    exact e2

theorem fill_rep [Use] (place : Nat → Option (Nat × Nat)) : ∀ (ps : List (Nat × A)) (qs : List (Nat × Value)) (xs : List A) (us : Array Value) (r : List A), RepL U w L hp xs us.toList →
    ps.length = qs.length → (∀ (j : Nat) (p : Nat × A) (q : Nat × Value), ps[j]? = some p → qs[j]? = some q → p.1 = q.1 ∧ Rep U w L hp p.2 q.2) → fillA place xs ps = some r →
    ∃ out : Array Value, Instr.fill place us qs = some out ∧ RepL U w L hp r out.toList
  | [], [], xs, us, r, h, _, _, hf => by
    simp only [fillA, Option.some.injEq] at hf
    subst hf
    exact ⟨us, rfl, h⟩
  | (i, v) :: ps, (i', u) :: qs, xs, us, r, h, hl, hpq, hf => by
    obtain ⟨rfl, hv⟩ := hpq 0 (i, v) (i', u) (by simp) (by simp)
    simp only [fillA] at hf
    unfold Instr.fill
    cases hpl : place i with
    | none => rw [hpl] at hf; cases hf
    | some os =>
      obtain ⟨off, size⟩ := os
      rw [hpl] at hf
      simp only at hf ⊢
      split at hf
      · rename_i hc
        obtain ⟨hc0, hc1, hc2⟩ := hc
        have hcv := rep_cells hv hc0
        obtain ⟨hcl, _⟩ := repL_get hcv
        obtain ⟨hxl, _⟩ := repL_get h
        obtain ⟨g1, g2⟩ := Great.foldl_set off u.cells.toList 0 us
        have hsz : u.cells.size = size := by rw [← hc1]; simpa using hcl
        have hus : us.size = xs.length := by simpa using hxl
        have hc1' : (cellsA v).length = size := hc1
        have e0 : (u.cells.size ≠ size || decide (off + u.cells.size > us.size)) = false := by simp [hsz]; omega
        rw [e0]
        simp only [Bool.false_eq_true, if_false]
        have e1 : (u.cells.zipIdx.foldl (fun cs (x : Value × Nat) => match x with | (c, j) => cs.setIfInBounds (off + j) c) us) = (u.cells.toList.zipIdx 0).foldl (fun cs (x : Value × Nat) => cs.setIfInBounds (off + x.2) x.1) us := by
          rw [← Array.foldl_toList, Array.toList_zipIdx]
        rw [e1]
        refine fill_rep place ps qs _ _ r ?_ (by simpa using hl) (fun j p q h1 h2 => hpq (j + 1) p q (by simpa using h1) (by simpa using h2)) hf
        have := repL_put h hcv off (by show off + (cellsA v).length ≤ _; omega) (out := ((u.cells.toList.zipIdx 0).foldl (fun cs (x : Value × Nat) => cs.setIfInBounds (off + x.2) x.1) us).toList) (by simpa using g1) (fun k => by
          have := g2 k
          simp only [Nat.add_zero] at this
          rw [Array.getElem?_toList, this]
          by_cases hk : off ≤ k ∧ k < off + u.cells.toList.length
          · rw [if_pos ⟨hk.1, hk.2, by simp at hk; omega⟩, if_pos hk]
          · rw [if_neg hk, if_neg (fun h => hk ⟨h.1, h.2.1⟩)]
            simp)
        rw [hc1] at this
        exact this
      · cases hf
  | [], _ :: _, _, _, _, _, hl, _, _ => by simp at hl
  | _ :: _, [], _, _, _, _, hl, _, _ => by simp at hl

theorem rep_zv [Use] {x : A} (h : zok x = true) : Rep U w L hp x (zv x) := by
  match x, h with
  | .i k n, h => simp only [Rep, zv]; exact ⟨trivial, h⟩
  | .b v, _ => simp [Rep, zv]
  | .s true sz 0 [], _ => simp [Rep, zv]
  | .und, _ => simp [Rep]

theorem repL_zero [Use] {t : Nat} {ti : TI} (h : TIok P t ti) {z : Value} (hz : z.cells.toList = ti.zero.map zv) : RepL U w L hp ti.zero z.cells.toList := by
  rw [hz]
  refine repL_of (by simp) fun j x u hx hu => ?_
  rw [List.getElem?_map, hx] at hu
  cases hu
  exact rep_zv (List.all_eq_true.1 h.zok x (List.mem_of_getElem? hx))

theorem places_of [Use] (hT : TabOk P T) : ∀ (fs : List _root_.Go.Field), (∀ f ∈ fs, ∃ i, P.info? f.type = some i ∧ i.size ≠ 0) →
    ∃ places, fs.mapM (fun f => (P.info? f.type).map fun i => (f.offset, i.size)) = some places ∧ ∀ (i : Nat) (x : Nat × Nat),
      (((fs.map (fun f => (f.offset, f.type)))[i]?).bind fun f => (T f.2).map fun fi => (f.1, fi.sz)) = some x → places[i]? = some x
  | [], _ => ⟨[], by simp, by simp⟩
  | f :: fs, h => by
    obtain ⟨places, h1, h2⟩ := places_of hT fs fun g hg => h g (List.mem_cons_of_mem _ hg)
    obtain ⟨i, hi, _⟩ := h f List.mem_cons_self
    refine ⟨(f.offset, i.size) :: places, by simp [List.mapM_cons, hi, h1], fun j x hx => ?_⟩
    cases j with
    | zero =>
      simp only [List.map_cons, List.getElem?_cons_zero, Option.bind_some, Option.map_eq_some_iff] at hx
      obtain ⟨ti, ht, rfl⟩ := hx
      obtain ⟨i', z, e1, e2, _⟩ := (hT _ ti ht).info
      rw [hi] at e1
      cases e1
      simp [e2]
    | succ j => simpa using h2 j x (by simpa using hx)

theorem fillA_place [Use] {p q : Nat → Option (Nat × Nat)} (h : ∀ i x, p i = some x → q i = some x) : ∀ (ps : List (Nat × A)) (xs r : List A), fillA p xs ps = some r → fillA q xs ps = some r
  | [], _, _, hf => hf
  | (i, v) :: ps, xs, r, hf => by
    simp only [fillA] at hf ⊢
    cases hpl : p i with
    | none => rw [hpl] at hf; cases hf
    | some os =>
      rw [hpl] at hf
      rw [h i os hpl]
      simp only at hf ⊢
      split at hf
      · rename_i hc
        rw [if_pos hc]
        exact fillA_place h ps _ r hf
      · cases hf

theorem parts_rep [Use] (hs : Slots U w L hp sl a.tmps) (parts : Array (Nat × Operand)) (ty : Nat → Nat) : ∀ (j : Nat) (p : Nat × A) (q : Nat × Value),
    (parts.toList.map fun p => (p.1, ev T sl (ty p.1) p.2))[j]? = some p → ((parts.map fun (i, x) => (i, a.eval x)).toList)[j]? = some q → p.1 = q.1 ∧ Rep U w L hp p.2 q.2 := by
  intro j p q hp' hq
  rw [List.getElem?_map] at hp'
  rw [Array.toList_map, List.getElem?_map] at hq
  simp only [Option.map_eq_some_iff] at hp' hq
  obtain ⟨x, h1, rfl⟩ := hp'
  obtain ⟨y, h2, rfl⟩ := hq
  rw [h1] at h2
  cases h2
  exact ⟨rfl, rep_ev hs _ _⟩

theorem eff_build [Use] (hT : TabOk P T) (hs : Slots U w L hp sl a.tmps) {t : Nat} {parts : Array (Nat × Operand)} (ho : o.op = .build t parts)
    (he : (match T t with
    | some ti => match ti.kind with
      | .struct fs => (fillA (fun i => (fs[i]?).bind fun f => (T f.2).map fun fi => (f.1, fi.sz)) ti.zero (parts.toList.map fun p => (p.1, ev T sl ((fs[p.1]?).elim 0 (·.2)) p.2))).map fun cs => Eff.pure (.agg cs)
      | _ => none
    | none => none) = some e) : PureOk P U w L hp a o e := by
  split at he
  · rename_i ti ht
    have hti := hT t ti ht
    split at he
    · rename_i fs hk
      have hkk : kindOf T t = .struct fs := by simp [kindOf, ht, hk]
      obtain ⟨fields, hu, rfl, hsz⟩ := hT.struct hkk
      simp only [Option.map_eq_some_iff] at he
      obtain ⟨r, hr, rfl⟩ := he
      obtain ⟨i, z, h1, h2, h3, h4, h5⟩ := hti.info
      obtain ⟨places, hp1, hp2⟩ := places_of hT fields.toList hsz
      have hz := repL_zero (U := U) (w := w) (L := L) (hp := hp) hti h5
      have hr' := fillA_place (q := (places.toArray[·]?)) (fun i x hx => by simpa using hp2 i x hx) _ _ _ hr
      obtain ⟨out, ho1, ho2⟩ := fill_rep _ _ (parts.map fun (i, x) => (i, a.eval x)).toList _ z.cells r hz (by simp) (parts_rep (T := T) hs parts (fun i => ((fields.toList.map fun f => (f.offset, f.type))[i]?).elim 0 (·.2))) hr'
      refine ⟨rfl, .agg out, ?_, by simp only [Eff.pure, Rep]; exact ⟨out, rfl, ho2⟩⟩
      have hb : P.built t (parts.map fun (i, x) => (i, a.eval x)).toList = some out := by
        simp only [Program.built, h1, hu, h4, hp1]
        exact ho1
      have := run_build (P := P) w t (parts.map fun (i, x) => (i, a.eval x)) out hb
      unfold execOp
      simp only [ho, Sem.run_bind, this, Result.andThen_ok, Sem.run_pure]
    · cases he
  · cases he

end
end Go.TM
