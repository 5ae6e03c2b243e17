/- The law FnExactDropAll: its contract, joined with its row. -/
import Derived.Test.YtbpfagbihffmbaaArgs
import Derived.Test.YtbpfagbihffmbaaHead
import Derived.Test.YtbpfagbihffmbaaF91
import Derived.ProofKit
import Derived.OpenShut
namespace Go.Proofs.Ytbpfagbihffmbaa.fnExactDropAll
open Go.ChangeShapes Go.WideShapes Go.ChangeAt Go.RowKit Go.TM
set_option linter.unusedVariables false
set_option linter.unusedSimpArgs false

theorem own : ownKnob Try.prog.godebug = none := by kernel_rfl

set_option maxRecDepth 100000 in
theorem lifted (os : Os) (started : os.Started) (H : Type) (enc : TypeId × Value → H) :
    ReturnsInHanded {} Try.checked os 4 .any (Rows.fnExactDropAllSpec.pre6 enc Try.prog Try.f4 Rows.fnExactDropAllRow.domain false) (Rows.fnExactDropAllSpec.post enc Try.prog Try.f4 false true false false) := by
  refine returnsInHanded_of_change (C := Try.checked) own started (by kernel_rfl) Try.func4
    (ChangeSpec.witness6 (enc := enc) (C := Try.checked) false ⟨#[], #[.agg #[.int .i64 0, .slice none 0 0], .slice none 0 0], []⟩ 8 (by kernel_rfl) (by kernel_rfl) (by kernel_rfl) (by kernel_rfl)) ?_
  intro W base args ds gs before hval0 hW hcnd _
  have hval : ∀ (j : Nat) t v, Try.f4.params[j]? = some t → args[j]? = some v → Value.okWide Try.prog W .any base t v := hval0
  have hW' := hW
  have hlt := hW.lt
  obtain ⟨p, q, hA0, hV, rfl, hfz, hnd⟩ := hW
  have hA : DataW.TrodAll enc Try.prog W 0 (fun _ => true) true Try.f4.params.toList args.toList ds p := hA0
  have hA' := hA
  rw [Try.params4] at hA hval
  obtain ⟨v0, vs0, d0, ds0, p0, q0, hargs, rfl, rfl, h0, r0⟩ := trodAll_cons hA
  obtain ⟨v1, vs1, d1, ds1, p1, q1, rfl, rfl, rfl, h1, r1⟩ := trodAll_cons r0
  obtain ⟨rfl, rfl, rfl⟩ := trodAll_nil r1
  obtain rfl : args = #[v0, v1] := by cases args; simp_all
  obtain ⟨rfl, rfl⟩ := trodVars_none hV
  obtain ⟨x0, g0, a0⟩ := arg_tree (hval 0 24 v0 rfl rfl) h0
  obtain ⟨x1, g1, a1⟩ := arg_ints (hval 1 35 v1 rfl rfl) h1
  clear hA0 hval0
  simp only [List.append_nil] at hW' hA' hlt
  have hx : ∀ (j : Nat) a u, ([(eTr false x0), (eIs false x1)] : List A)[j]? = some a → ([v0, v1] : List Value)[j]? = some u → ArgOk W a u := by
    intro j a u ha hu
    rcases j with _ | j
    · cases ha; cases hu; exact a0
    rcases j with _ | j
    · cases ha; cases hu; exact a1
    · cases ha
  refine (law_calls (w := W) Go.TM.c_FnExactDropAll (args := [(eTr false x0), (eIs false x1)]) (us := [v0, v1]) rfl rfl hx (Go.TM.fn_FnExactDropAll x0 g0 x1 g1)).mono fun e W' ⟨he, hg⟩ => ?_
  subst he
  exact ⟨_, rfl, post_of_same (pa := _) (pv := []) hW' (fun _ _ _ => (trodAll_cons_mk (shut_bool Try.underlying4 _) trodAll_mk0)) (fun sp hs => trodAll_again (fun t ht => by simp only [Try.params4, List.mem_cons, List.not_mem_nil, or_false] at ht; rcases ht with rfl | rfl <;> first | exact plain_ints | exact plain_tree) hA' (fun p hp => hs p (by simpa using hp)) (kept_same hg fun p hp => hlt p (by simpa using hp))) (fun _ _ => rfl) (by simp)
    (hg.frame _) hg.2.1 (ok_one (by kernel_rfl) rfl (okWide_bool_mk Try.underlying4 _))⟩

theorem closed : joinedFacts Try.prog 4 Try.f4 Rows.fnExactDropAllSpec Rows.fnExactDropAllRow = true := by
  unfold joinedFacts
  rw [may_enter, lifts_final, make_is]
  kernel_rfl

theorem over : Rows.fnExactDropAllRow.holds Try.pinned (OpenSpec.ofChange Rows.fnExactDropAllSpec) :=
  OpenClaim.holds_of_wide 4 Try.f4 rfl rfl rfl rfl rfl rfl rfl ⟨rfl, rfl, rfl, rfl, rfl⟩ rfl rfl rfl rfl rfl (by kernel_rfl) Try.func4 closed
    (of_decide_eq_true (by kernel_rfl)) (by unfold Func.isWrapper; first | (rw [if_pos (by decide +kernel)]; kernel_rfl) | (rw [if_neg (by decide +kernel)]; exact ⟨rfl, rfl⟩))
    (fun os started H enc _ => lifted os started H enc)

/-- The statement. -/
theorem proved : Rows.FnExactDropAllSaid :=
  over
#print axioms proved
end Go.Proofs.Ytbpfagbihffmbaa.fnExactDropAll

