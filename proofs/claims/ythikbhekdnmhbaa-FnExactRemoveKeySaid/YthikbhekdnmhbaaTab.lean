/- The types of the program, as the tree machine has them. -/
import Derived.Test.YthikbhekdnmhbaaTmD
import Derived.Test.YthikbhekdnmhbaaChecked
import Derived.KernelRfl
namespace Go.TM
open Go.Proofs
set_option linter.unusedVariables false
set_option linter.unusedSimpArgs false
def T : Nat → Option TI
  | 2 => some tiInt
  | 3 => some tiInt
  | 4 => some tiBool
  | 5 => some tiU8
  | 22 => some (tiSl 3 1)
  | 26 => some (tiSl 5 1)
  | 30 => some (tiSl 86 3)
  | 33 => some (tiSl 84 3)
  | 40 => some (tiSl 91 2)
  | 43 => some (tiSl 60 2)
  | 47 => some (tiSt [(0, 22), (1, 22)] 2 48 [.s true 1 0 [], .s true 1 0 []])
  | 48 => some (tiSt [(0, 22), (1, 22)] 2 48 [.s true 1 0 [], .s true 1 0 []])
  | 51 => some (tiSt [(0, 22), (1, 22)] 2 48 [.s true 1 0 [], .s true 1 0 []])
  | 59 => some (tiSt [(0, 3), (1, 3)] 2 16 [.i .i64 0, .i .i64 0])
  | 60 => some (tiSt [(0, 3), (1, 3)] 2 16 [.i .i64 0, .i .i64 0])
  | 70 => some (tiSt [(0, 22), (1, 22), (2, 22)] 3 72 [.s true 1 0 [], .s true 1 0 [], .s true 1 0 []])
  | 71 => some (tiSt [(0, 22), (1, 22), (2, 22)] 3 72 [.s true 1 0 [], .s true 1 0 [], .s true 1 0 []])
  | 74 => some (tiSt [(0, 22), (1, 22), (2, 22)] 3 72 [.s true 1 0 [], .s true 1 0 [], .s true 1 0 []])
  | 79 => some ⟨.pointer 102, false, 1, 8, [.und]⟩
  | 83 => some (tiSt [(0, 3), (1, 3), (2, 3)] 3 24 [.i .i64 0, .i .i64 0, .i .i64 0])
  | 84 => some (tiSt [(0, 3), (1, 3), (2, 3)] 3 24 [.i .i64 0, .i .i64 0, .i .i64 0])
  | 86 => some (tiSt [(0, 3), (1, 3), (2, 3)] 3 24 [.i .i64 0, .i .i64 0, .i .i64 0])
  | 91 => some (tiSt [(0, 3), (1, 3)] 2 16 [.i .i64 0, .i .i64 0])
  | 93 => some (tiAr 16 4 16 16 [.b false, .b false, .b false, .b false, .b false, .b false, .b false, .b false, .b false, .b false, .b false, .b false, .b false, .b false, .b false, .b false])
  | 101 => some (tiSt [(0, 26), (1, 3)] 2 32 [.s true 1 0 [], .i .i64 0])
  | 102 => some (tiSt [(0, 26), (1, 3)] 2 32 [.s true 1 0 [], .i .i64 0])
  | _ => none
theorem T_2 : T 2 = some tiInt := rfl
theorem K_2 : kindOf T 2 = .int .i64 := rfl
theorem Z_2 : szOf T 2 = some 1 := rfl
attribute [go_sem] T_2 K_2 Z_2
theorem T_3 : T 3 = some tiInt := rfl
theorem K_3 : kindOf T 3 = .int .i64 := rfl
theorem Z_3 : szOf T 3 = some 1 := rfl
attribute [go_sem] T_3 K_3 Z_3
theorem T_4 : T 4 = some tiBool := rfl
theorem K_4 : kindOf T 4 = .bool := rfl
theorem Z_4 : szOf T 4 = some 1 := rfl
attribute [go_sem] T_4 K_4 Z_4
theorem T_5 : T 5 = some tiU8 := rfl
theorem K_5 : kindOf T 5 = .int .u8 := rfl
theorem Z_5 : szOf T 5 = some 1 := rfl
attribute [go_sem] T_5 K_5 Z_5
theorem T_22 : T 22 = some (tiSl 3 1) := rfl
theorem K_22 : kindOf T 22 = .slice 3 := rfl
theorem Z_22 : szOf T 22 = some 1 := rfl
attribute [go_sem] T_22 K_22 Z_22
theorem T_26 : T 26 = some (tiSl 5 1) := rfl
theorem K_26 : kindOf T 26 = .slice 5 := rfl
theorem Z_26 : szOf T 26 = some 1 := rfl
attribute [go_sem] T_26 K_26 Z_26
theorem T_30 : T 30 = some (tiSl 86 3) := rfl
theorem K_30 : kindOf T 30 = .slice 86 := rfl
theorem Z_30 : szOf T 30 = some 1 := rfl
attribute [go_sem] T_30 K_30 Z_30
theorem T_33 : T 33 = some (tiSl 84 3) := rfl
theorem K_33 : kindOf T 33 = .slice 84 := rfl
theorem Z_33 : szOf T 33 = some 1 := rfl
attribute [go_sem] T_33 K_33 Z_33
theorem T_40 : T 40 = some (tiSl 91 2) := rfl
theorem K_40 : kindOf T 40 = .slice 91 := rfl
theorem Z_40 : szOf T 40 = some 1 := rfl
attribute [go_sem] T_40 K_40 Z_40
theorem T_43 : T 43 = some (tiSl 60 2) := rfl
theorem K_43 : kindOf T 43 = .slice 60 := rfl
theorem Z_43 : szOf T 43 = some 1 := rfl
attribute [go_sem] T_43 K_43 Z_43
theorem T_47 : T 47 = some (tiSt [(0, 22), (1, 22)] 2 48 [.s true 1 0 [], .s true 1 0 []]) := rfl
theorem K_47 : kindOf T 47 = .struct [(0, 22), (1, 22)] := rfl
theorem Z_47 : szOf T 47 = some 2 := rfl
attribute [go_sem] T_47 K_47 Z_47
theorem T_48 : T 48 = some (tiSt [(0, 22), (1, 22)] 2 48 [.s true 1 0 [], .s true 1 0 []]) := rfl
theorem K_48 : kindOf T 48 = .struct [(0, 22), (1, 22)] := rfl
theorem Z_48 : szOf T 48 = some 2 := rfl
attribute [go_sem] T_48 K_48 Z_48
theorem T_51 : T 51 = some (tiSt [(0, 22), (1, 22)] 2 48 [.s true 1 0 [], .s true 1 0 []]) := rfl
theorem K_51 : kindOf T 51 = .struct [(0, 22), (1, 22)] := rfl
theorem Z_51 : szOf T 51 = some 2 := rfl
attribute [go_sem] T_51 K_51 Z_51
theorem T_59 : T 59 = some (tiSt [(0, 3), (1, 3)] 2 16 [.i .i64 0, .i .i64 0]) := rfl
theorem K_59 : kindOf T 59 = .struct [(0, 3), (1, 3)] := rfl
theorem Z_59 : szOf T 59 = some 2 := rfl
attribute [go_sem] T_59 K_59 Z_59
theorem T_60 : T 60 = some (tiSt [(0, 3), (1, 3)] 2 16 [.i .i64 0, .i .i64 0]) := rfl
theorem K_60 : kindOf T 60 = .struct [(0, 3), (1, 3)] := rfl
theorem Z_60 : szOf T 60 = some 2 := rfl
attribute [go_sem] T_60 K_60 Z_60
theorem T_70 : T 70 = some (tiSt [(0, 22), (1, 22), (2, 22)] 3 72 [.s true 1 0 [], .s true 1 0 [], .s true 1 0 []]) := rfl
theorem K_70 : kindOf T 70 = .struct [(0, 22), (1, 22), (2, 22)] := rfl
theorem Z_70 : szOf T 70 = some 3 := rfl
attribute [go_sem] T_70 K_70 Z_70
theorem T_71 : T 71 = some (tiSt [(0, 22), (1, 22), (2, 22)] 3 72 [.s true 1 0 [], .s true 1 0 [], .s true 1 0 []]) := rfl
theorem K_71 : kindOf T 71 = .struct [(0, 22), (1, 22), (2, 22)] := rfl
theorem Z_71 : szOf T 71 = some 3 := rfl
attribute [go_sem] T_71 K_71 Z_71
theorem T_74 : T 74 = some (tiSt [(0, 22), (1, 22), (2, 22)] 3 72 [.s true 1 0 [], .s true 1 0 [], .s true 1 0 []]) := rfl
theorem K_74 : kindOf T 74 = .struct [(0, 22), (1, 22), (2, 22)] := rfl
theorem Z_74 : szOf T 74 = some 3 := rfl
attribute [go_sem] T_74 K_74 Z_74
theorem T_79 : T 79 = some ⟨.pointer 102, false, 1, 8, [.und]⟩ := rfl
theorem K_79 : kindOf T 79 = .pointer 102 := rfl
theorem Z_79 : szOf T 79 = some 1 := rfl
attribute [go_sem] T_79 K_79 Z_79
theorem T_83 : T 83 = some (tiSt [(0, 3), (1, 3), (2, 3)] 3 24 [.i .i64 0, .i .i64 0, .i .i64 0]) := rfl
theorem K_83 : kindOf T 83 = .struct [(0, 3), (1, 3), (2, 3)] := rfl
theorem Z_83 : szOf T 83 = some 3 := rfl
attribute [go_sem] T_83 K_83 Z_83
theorem T_84 : T 84 = some (tiSt [(0, 3), (1, 3), (2, 3)] 3 24 [.i .i64 0, .i .i64 0, .i .i64 0]) := rfl
theorem K_84 : kindOf T 84 = .struct [(0, 3), (1, 3), (2, 3)] := rfl
theorem Z_84 : szOf T 84 = some 3 := rfl
attribute [go_sem] T_84 K_84 Z_84
theorem T_86 : T 86 = some (tiSt [(0, 3), (1, 3), (2, 3)] 3 24 [.i .i64 0, .i .i64 0, .i .i64 0]) := rfl
theorem K_86 : kindOf T 86 = .struct [(0, 3), (1, 3), (2, 3)] := rfl
theorem Z_86 : szOf T 86 = some 3 := rfl
attribute [go_sem] T_86 K_86 Z_86
theorem T_91 : T 91 = some (tiSt [(0, 3), (1, 3)] 2 16 [.i .i64 0, .i .i64 0]) := rfl
theorem K_91 : kindOf T 91 = .struct [(0, 3), (1, 3)] := rfl
theorem Z_91 : szOf T 91 = some 2 := rfl
attribute [go_sem] T_91 K_91 Z_91
theorem T_93 : T 93 = some (tiAr 16 4 16 16 [.b false, .b false, .b false, .b false, .b false, .b false, .b false, .b false, .b false, .b false, .b false, .b false, .b false, .b false, .b false, .b false]) := rfl
theorem K_93 : kindOf T 93 = .array 16 4 := rfl
theorem Z_93 : szOf T 93 = some 16 := rfl
attribute [go_sem] T_93 K_93 Z_93
theorem T_101 : T 101 = some (tiSt [(0, 26), (1, 3)] 2 32 [.s true 1 0 [], .i .i64 0]) := rfl
theorem K_101 : kindOf T 101 = .struct [(0, 26), (1, 3)] := rfl
theorem Z_101 : szOf T 101 = some 2 := rfl
attribute [go_sem] T_101 K_101 Z_101
theorem T_102 : T 102 = some (tiSt [(0, 26), (1, 3)] 2 32 [.s true 1 0 [], .i .i64 0]) := rfl
theorem K_102 : kindOf T 102 = .struct [(0, 26), (1, 3)] := rfl
theorem Z_102 : szOf T 102 = some 2 := rfl
attribute [go_sem] T_102 K_102 Z_102
theorem tabOk : TabOk Try.prog T := by
  intro t ti h
  unfold T at h
  split at h <;> first | (cases h; exact tiB_ok (by kernel_rfl)) | cases h
end Go.TM
