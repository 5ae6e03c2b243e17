/- What the head of the program's source says: it is read up to the word behind the sum. -/
import Derived.Test.YtbpfagbihffmbaaRows
import Derived.ProofKit
import Derived.KernelRfl
namespace Go.Proofs.Ytbpfagbihffmbaa
set_option linter.unusedVariables false
set_option linter.unusedSimpArgs false
set_option maxRecDepth 100000

theorem words_cons : ∀ (w r : List Char), (w.all fun c => c != Char.ofNat 32) = true → wordsSigns (w ++ Char.ofNat 32 :: r) = w :: wordsSigns r
  | [], r, _ => rfl
  | c :: w, r, h => by
    simp only [List.all_cons, Bool.and_eq_true, bne_iff_ne, ne_eq] at h
    have ih := words_cons w r h.2
    rw [List.cons_append, wordsSigns]
    · rw [ih]
    · exact h.1

def headH : List Char := [104, 97, 114, 110, 101, 115, 115].map Char.ofNat
def headS : List Char := [54, 50, 102, 53, 55, 56, 98, 56, 101, 49, 57, 102, 98, 48, 99, 52, 54, 56, 50, 51, 57, 50, 52, 98, 98, 49, 51, 50, 100, 55, 57, 53, 100, 99, 101, 98, 51, 54, 99, 52, 51, 51, 52, 55, 97, 50, 52, 48, 57, 52, 102, 57, 56, 100, 57, 102, 99, 52, 55, 57, 53, 54, 100, 98].map Char.ofNat
def headC : List Char := [99, 117, 116].map Char.ofNat
def headR : List Char := [97, 116, 32, 108, 111, 111, 112, 46, 101, 120, 97, 109, 112, 108, 101, 47, 112, 97, 103, 101, 116, 114, 101, 101, 47, 108, 97, 119, 115, 46, 70, 110, 69, 120, 97, 99, 116, 68, 114, 111, 112, 75, 101, 121, 32, 108, 111, 111, 112, 46, 101, 120, 97, 109, 112, 108, 101, 47, 112, 97, 103, 101, 116, 114, 101, 101, 47, 108, 97, 119, 115, 46, 70, 110, 69, 120, 97, 99, 116, 68, 114, 111, 112, 65, 108, 108, 32, 108, 111, 111, 112, 46, 101, 120, 97, 109, 112, 108, 101, 47, 112, 97, 103, 101, 116, 114, 101, 101, 47, 108, 97, 119, 115, 46, 70, 110, 69, 120, 97, 99, 116, 80, 117, 116, 65, 108, 108, 32, 108, 111, 111, 112, 46, 101, 120, 97, 109, 112, 108, 101, 47, 112, 97, 103, 101, 116, 114, 101, 101, 47, 108, 97, 119, 115, 46, 70, 110, 69, 120, 97, 99, 116, 74, 111, 105, 110, 115, 70, 111, 114, 32, 108, 111, 111, 112, 46, 101, 120, 97, 109, 112, 108, 101, 47, 112, 97, 103, 101, 116, 114, 101, 101, 47, 108, 97, 119, 115, 46, 70, 110, 69, 120, 97, 99, 116, 80, 117, 116, 75, 101, 121, 32, 108, 111, 111, 112, 46, 101, 120, 97, 109, 112, 108, 101, 47, 112, 97, 103, 101, 116, 114, 101, 101, 47, 108, 97, 119, 115, 46, 70, 110, 69, 120, 97, 99, 116, 67, 104, 97, 110, 103, 101, 100, 80, 97, 103, 101, 115, 32, 108, 111, 111, 112, 46, 101, 120, 97, 109, 112, 108, 101, 47, 112, 97, 103, 101, 116, 114, 101, 101, 47, 108, 97, 119, 115, 46, 70, 110, 69, 120, 97, 99, 116, 83, 112, 108, 105, 116, 115, 70, 111, 114, 32, 108, 111, 111, 112, 46, 101, 120, 97, 109, 112, 108, 101, 47, 112, 97, 103, 101, 116, 114, 101, 101, 47, 108, 97, 119, 115, 46, 70, 110, 69, 120, 97, 99, 116, 76, 97, 116, 99, 104, 80, 97, 116, 104, 32, 108, 111, 111, 112, 46, 101, 120, 97, 109, 112, 108, 101, 47, 112, 97, 103, 101, 116, 114, 101, 101, 47, 108, 97, 119, 115, 46, 70, 110, 69, 120, 97, 99, 116, 72, 101, 108, 100, 76, 97, 115, 116, 32, 108, 111, 111, 112, 46, 101, 120, 97, 109, 112, 108, 101, 47, 112, 97, 103, 101, 116, 114, 101, 101, 47, 108, 97, 119, 115, 46, 70, 110, 69, 120, 97, 99, 116, 85, 110, 112, 97, 99, 107, 84, 114, 101, 101, 32, 108, 111, 111, 112, 46, 101, 120, 97, 109, 112, 108, 101, 47, 112, 97, 103, 101, 116, 114, 101, 101, 47, 108, 97, 119, 115, 46, 70, 110, 69, 120, 97, 99, 116, 80, 97, 99, 107, 84, 114, 101, 101, 32, 108, 111, 111, 112, 46, 101, 120, 97, 109, 112, 108, 101, 47, 112, 97, 103, 101, 116, 114, 101, 101, 47, 108, 97, 119, 115, 46, 70, 110, 69, 120, 97, 99, 116, 71, 101, 116, 75, 101, 121].map Char.ofNat
def headL : List Char := [104, 97, 114, 110, 101, 115, 115, 32, 54, 50, 102, 53, 55, 56, 98, 56, 101, 49, 57, 102, 98, 48, 99, 52, 54, 56, 50, 51, 57, 50, 52, 98, 98, 49, 51, 50, 100, 55, 57, 53, 100, 99, 101, 98, 51, 54, 99, 52, 51, 51, 52, 55, 97, 50, 52, 48, 57, 52, 102, 57, 56, 100, 57, 102, 99, 52, 55, 57, 53, 54, 100, 98, 32, 99, 117, 116, 32, 97, 116, 32, 108, 111, 111, 112, 46, 101, 120, 97, 109, 112, 108, 101, 47, 112, 97, 103, 101, 116, 114, 101, 101, 47, 108, 97, 119, 115, 46, 70, 110, 69, 120, 97, 99, 116, 68, 114, 111, 112, 75, 101, 121, 32, 108, 111, 111, 112, 46, 101, 120, 97, 109, 112, 108, 101, 47, 112, 97, 103, 101, 116, 114, 101, 101, 47, 108, 97, 119, 115, 46, 70, 110, 69, 120, 97, 99, 116, 68, 114, 111, 112, 65, 108, 108, 32, 108, 111, 111, 112, 46, 101, 120, 97, 109, 112, 108, 101, 47, 112, 97, 103, 101, 116, 114, 101, 101, 47, 108, 97, 119, 115, 46, 70, 110, 69, 120, 97, 99, 116, 80, 117, 116, 65, 108, 108, 32, 108, 111, 111, 112, 46, 101, 120, 97, 109, 112, 108, 101, 47, 112, 97, 103, 101, 116, 114, 101, 101, 47, 108, 97, 119, 115, 46, 70, 110, 69, 120, 97, 99, 116, 74, 111, 105, 110, 115, 70, 111, 114, 32, 108, 111, 111, 112, 46, 101, 120, 97, 109, 112, 108, 101, 47, 112, 97, 103, 101, 116, 114, 101, 101, 47, 108, 97, 119, 115, 46, 70, 110, 69, 120, 97, 99, 116, 80, 117, 116, 75, 101, 121, 32, 108, 111, 111, 112, 46, 101, 120, 97, 109, 112, 108, 101, 47, 112, 97, 103, 101, 116, 114, 101, 101, 47, 108, 97, 119, 115, 46, 70, 110, 69, 120, 97, 99, 116, 67, 104, 97, 110, 103, 101, 100, 80, 97, 103, 101, 115, 32, 108, 111, 111, 112, 46, 101, 120, 97, 109, 112, 108, 101, 47, 112, 97, 103, 101, 116, 114, 101, 101, 47, 108, 97, 119, 115, 46, 70, 110, 69, 120, 97, 99, 116, 83, 112, 108, 105, 116, 115, 70, 111, 114, 32, 108, 111, 111, 112, 46, 101, 120, 97, 109, 112, 108, 101, 47, 112, 97, 103, 101, 116, 114, 101, 101, 47, 108, 97, 119, 115, 46, 70, 110, 69, 120, 97, 99, 116, 76, 97, 116, 99, 104, 80, 97, 116, 104, 32, 108, 111, 111, 112, 46, 101, 120, 97, 109, 112, 108, 101, 47, 112, 97, 103, 101, 116, 114, 101, 101, 47, 108, 97, 119, 115, 46, 70, 110, 69, 120, 97, 99, 116, 72, 101, 108, 100, 76, 97, 115, 116, 32, 108, 111, 111, 112, 46, 101, 120, 97, 109, 112, 108, 101, 47, 112, 97, 103, 101, 116, 114, 101, 101, 47, 108, 97, 119, 115, 46, 70, 110, 69, 120, 97, 99, 116, 85, 110, 112, 97, 99, 107, 84, 114, 101, 101, 32, 108, 111, 111, 112, 46, 101, 120, 97, 109, 112, 108, 101, 47, 112, 97, 103, 101, 116, 114, 101, 101, 47, 108, 97, 119, 115, 46, 70, 110, 69, 120, 97, 99, 116, 80, 97, 99, 107, 84, 114, 101, 101, 32, 108, 111, 111, 112, 46, 101, 120, 97, 109, 112, 108, 101, 47, 112, 97, 103, 101, 116, 114, 101, 101, 47, 108, 97, 119, 115, 46, 70, 110, 69, 120, 97, 99, 116, 71, 101, 116, 75, 101, 121].map Char.ofNat
theorem head_lit : Try.prog.initOrder = "harness 62f578b8e19fb0c46823924bb132d795dceb36c43347a24094f98d9fc47956db cut at loop.example/pagetree/laws.FnExactDropKey loop.example/pagetree/laws.FnExactDropAll loop.example/pagetree/laws.FnExactPutAll loop.example/pagetree/laws.FnExactJoinsFor loop.example/pagetree/laws.FnExactPutKey loop.example/pagetree/laws.FnExactChangedPages loop.example/pagetree/laws.FnExactSplitsFor loop.example/pagetree/laws.FnExactLatchPath loop.example/pagetree/laws.FnExactHeldLast loop.example/pagetree/laws.FnExactUnpackTree loop.example/pagetree/laws.FnExactPackTree loop.example/pagetree/laws.FnExactGetKey" := by kernel_rfl
theorem lit_list : "harness 62f578b8e19fb0c46823924bb132d795dceb36c43347a24094f98d9fc47956db cut at loop.example/pagetree/laws.FnExactDropKey loop.example/pagetree/laws.FnExactDropAll loop.example/pagetree/laws.FnExactPutAll loop.example/pagetree/laws.FnExactJoinsFor loop.example/pagetree/laws.FnExactPutKey loop.example/pagetree/laws.FnExactChangedPages loop.example/pagetree/laws.FnExactSplitsFor loop.example/pagetree/laws.FnExactLatchPath loop.example/pagetree/laws.FnExactHeldLast loop.example/pagetree/laws.FnExactUnpackTree loop.example/pagetree/laws.FnExactPackTree loop.example/pagetree/laws.FnExactGetKey" = String.ofList headL := by kernel_rfl
theorem head_list : headL = headH ++ Char.ofNat 32 :: (headS ++ Char.ofNat 32 :: (headC ++ Char.ofNat 32 :: headR)) := by kernel_rfl
theorem head_words : wordsSigns Try.prog.initOrder.toList = headH :: headS :: headC :: wordsSigns headR := by
  rw [head_lit, lit_list, String.toList_ofList, head_list, words_cons _ _ (by kernel_rfl), words_cons _ _ (by kernel_rfl), words_cons _ _ (by kernel_rfl)]
theorem behind (ws : List (List Char)) : behindMainWord (headH :: headS :: headC :: ws) = headC :: ws := by kernel_rfl
theorem e1 : (headC == "gc".toList) = false := by kernel_rfl
theorem e2 : (headC == "spec".toList) = false := by kernel_rfl
theorem e3 : (headC == "cut".toList) = true := by kernel_rfl
theorem e4 : (headC == "carried".toList) = false := by kernel_rfl
theorem e5 : (some headC == some "cut".toList) = true := by kernel_rfl
theorem e6 : (some headC == some "carried".toList) = false := by kernel_rfl
theorem strip (ws : List (List Char)) : stripLifts liftWords (headC :: ws) = ([], headC :: ws) := by kernel_rfl
section
variable {P : Program} {ws : List (List Char)}
theorem make_of (h : wordsSigns P.initOrder.toList = headH :: headS :: headC :: ws) : P.make = some .cut := by
  unfold Program.make
  rw [h, behind]
  simp only [e1, e2, e3, Bool.or_false, Bool.false_eq_true, if_false, Bool.true_or, if_true]
theorem lifts_of (h : wordsSigns P.initOrder.toList = headH :: headS :: headC :: ws) : P.headLifts = [] := by
  unfold Program.headLifts
  rw [h, behind, strip]
  simp only [List.head?_cons, e5, if_true]
theorem final_of (h : wordsSigns P.initOrder.toList = headH :: headS :: headC :: ws) : P.liftsFinal = false := by
  unfold Program.liftsFinal
  rw [h, behind, lifts_of h]
  simp only [List.head?_cons, e6, Bool.false_and, Bool.false_or]
  rfl
theorem enter_of (h : wordsSigns P.initOrder.toList = headH :: headS :: headC :: ws) (h1 : P.laysLater = false) (h2 : P.bearsReflect = false) (h3 : P.doorFits [] = true) : P.mayEnter = true := by
  unfold Program.mayEnter
  rw [h, behind]
  simp only [e1, e2, e4, e5, strip, h1, h2, h3, List.head?_cons, Bool.or_false, Bool.false_and, Bool.false_or, Bool.not_false, Bool.or_true, Bool.true_and, Bool.and_true]
  rfl
end
theorem make_is : Try.prog.make = some .cut := make_of head_words
theorem lifts_final : Try.prog.liftsFinal = false := final_of head_words
theorem may_enter : Try.prog.mayEnter = true := enter_of head_words (by kernel_rfl) (by kernel_rfl) (by kernel_rfl)
end Go.Proofs.Ytbpfagbihffmbaa
