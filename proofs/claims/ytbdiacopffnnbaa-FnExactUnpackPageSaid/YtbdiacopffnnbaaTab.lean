/- The types of the program, as the tree machine has them. -/
import Derived.Test.YtbdiacopffnnbaaTmD
import Derived.Test.YtbdiacopffnnbaaChecked
import Derived.KernelRfl
namespace Go.TM
open Go.Proofs
set_option linter.unusedVariables false
set_option linter.unusedSimpArgs false
def T : Nat → Option TI
  | 2 => some tiInt
  | 3 => some tiInt
  | 4 => some tiBool
  | 5 => some tiU8
  | 22 => some (tiSl 86 2)
  | 26 => some (tiSl 88 2)
  | 34 => some (tiSl 3 1)
  | 35 => some (tiSt [(0, 34), (1, 34)] 2 48 [.s true 1 0 [], .s true 1 0 []])
  | 36 => some (tiSt [(0, 34), (1, 34)] 2 48 [.s true 1 0 [], .s true 1 0 []])
  | 38 => some (tiSt [(0, 34), (1, 34)] 2 48 [.s true 1 0 [], .s true 1 0 []])
  | 57 => some (tiSt [(0, 34), (1, 34), (2, 34)] 3 72 [.s true 1 0 [], .s true 1 0 [], .s true 1 0 []])
  | 58 => some (tiSt [(0, 34), (1, 34), (2, 34)] 3 72 [.s true 1 0 [], .s true 1 0 [], .s true 1 0 []])
  | 61 => some (tiSt [(0, 34), (1, 34), (2, 34)] 3 72 [.s true 1 0 [], .s true 1 0 [], .s true 1 0 []])
  | 66 => some (tiSl 58 3)
  | 67 => some (tiSt [(0, 3), (1, 66)] 2 32 [.i .i64 0, .s true 3 0 []])
  | 68 => some (tiSt [(0, 3), (1, 66)] 2 32 [.i .i64 0, .s true 3 0 []])
  | 71 => some (tiSl 61 3)
  | 72 => some (tiSt [(0, 3), (1, 71)] 2 32 [.i .i64 0, .s true 3 0 []])
  | 73 => some (tiSt [(0, 3), (1, 71)] 2 32 [.i .i64 0, .s true 3 0 []])
  | 85 => some (tiSt [(0, 3), (1, 3)] 2 16 [.i .i64 0, .i .i64 0])
  | 86 => some (tiSt [(0, 3), (1, 3)] 2 16 [.i .i64 0, .i .i64 0])
  | 88 => some (tiSt [(0, 3), (1, 3)] 2 16 [.i .i64 0, .i .i64 0])
  | 121 => some (tiAr 16 4 16 16 [.b false, .b false, .b false, .b false, .b false, .b false, .b false, .b false, .b false, .b false, .b false, .b false, .b false, .b false, .b false, .b false])
  | 122 => some (tiSt [(0, 73), (2, 121), (18, 3)] 19 56 [.i .i64 0, .s true 3 0 [], .b false, .b false, .b false, .b false, .b false, .b false, .b false, .b false, .b false, .b false, .b false, .b false, .b false, .b false, .b false, .b false, .i .i64 0])
  | 123 => some (tiSt [(0, 73), (2, 121), (18, 3)] 19 56 [.i .i64 0, .s true 3 0 [], .b false, .b false, .b false, .b false, .b false, .b false, .b false, .b false, .b false, .b false, .b false, .b false, .b false, .b false, .b false, .b false, .i .i64 0])
  | 133 => some (tiSl 26 1)
  | 134 => some (tiSt [(0, 133), (1, 71)] 2 48 [.s true 1 0 [], .s true 3 0 []])
  | 135 => some (tiSt [(0, 133), (1, 71)] 2 48 [.s true 1 0 [], .s true 3 0 []])
  | 143 => some (tiAr 16 3 16 128 [.i .i64 0, .i .i64 0, .i .i64 0, .i .i64 0, .i .i64 0, .i .i64 0, .i .i64 0, .i .i64 0, .i .i64 0, .i .i64 0, .i .i64 0, .i .i64 0, .i .i64 0, .i .i64 0, .i .i64 0, .i .i64 0])
  | 151 => some (tiSl 34 1)
  | 154 => some ⟨.pointer 123, false, 1, 8, [.und]⟩
  | 159 => some ⟨.pointer 135, false, 1, 8, [.und]⟩
  | _ => none
theorem T_2 : T 2 = some tiInt := rfl
theorem K_2 : kindOf T 2 = .int .i64 := rfl
theorem Z_2 : szOf T 2 = some 1 := rfl
attribute [go_sem] T_2 K_2 Z_2
theorem T_3 : T 3 = some tiInt := rfl
theorem K_3 : kindOf T 3 = .int .i64 := rfl
theorem Z_3 : szOf T 3 = some 1 := rfl
attribute [go_sem] T_3 K_3 Z_3
theorem T_4 : T 4 = some tiBool := rfl
theorem K_4 : kindOf T 4 = .bool := rfl
theorem Z_4 : szOf T 4 = some 1 := rfl
attribute [go_sem] T_4 K_4 Z_4
theorem T_5 : T 5 = some tiU8 := rfl
theorem K_5 : kindOf T 5 = .int .u8 := rfl
theorem Z_5 : szOf T 5 = some 1 := rfl
attribute [go_sem] T_5 K_5 Z_5
theorem T_22 : T 22 = some (tiSl 86 2) := rfl
theorem K_22 : kindOf T 22 = .slice 86 := rfl
theorem Z_22 : szOf T 22 = some 1 := rfl
attribute [go_sem] T_22 K_22 Z_22
theorem T_26 : T 26 = some (tiSl 88 2) := rfl
theorem K_26 : kindOf T 26 = .slice 88 := rfl
theorem Z_26 : szOf T 26 = some 1 := rfl
attribute [go_sem] T_26 K_26 Z_26
theorem T_34 : T 34 = some (tiSl 3 1) := rfl
theorem K_34 : kindOf T 34 = .slice 3 := rfl
theorem Z_34 : szOf T 34 = some 1 := rfl
attribute [go_sem] T_34 K_34 Z_34
theorem T_35 : T 35 = some (tiSt [(0, 34), (1, 34)] 2 48 [.s true 1 0 [], .s true 1 0 []]) := rfl
theorem K_35 : kindOf T 35 = .struct [(0, 34), (1, 34)] := rfl
theorem Z_35 : szOf T 35 = some 2 := rfl
attribute [go_sem] T_35 K_35 Z_35
theorem T_36 : T 36 = some (tiSt [(0, 34), (1, 34)] 2 48 [.s true 1 0 [], .s true 1 0 []]) := rfl
theorem K_36 : kindOf T 36 = .struct [(0, 34), (1, 34)] := rfl
theorem Z_36 : szOf T 36 = some 2 := rfl
attribute [go_sem] T_36 K_36 Z_36
theorem T_38 : T 38 = some (tiSt [(0, 34), (1, 34)] 2 48 [.s true 1 0 [], .s true 1 0 []]) := rfl
theorem K_38 : kindOf T 38 = .struct [(0, 34), (1, 34)] := rfl
theorem Z_38 : szOf T 38 = some 2 := rfl
attribute [go_sem] T_38 K_38 Z_38
theorem T_57 : T 57 = some (tiSt [(0, 34), (1, 34), (2, 34)] 3 72 [.s true 1 0 [], .s true 1 0 [], .s true 1 0 []]) := rfl
theorem K_57 : kindOf T 57 = .struct [(0, 34), (1, 34), (2, 34)] := rfl
theorem Z_57 : szOf T 57 = some 3 := rfl
attribute [go_sem] T_57 K_57 Z_57
theorem T_58 : T 58 = some (tiSt [(0, 34), (1, 34), (2, 34)] 3 72 [.s true 1 0 [], .s true 1 0 [], .s true 1 0 []]) := rfl
theorem K_58 : kindOf T 58 = .struct [(0, 34), (1, 34), (2, 34)] := rfl
theorem Z_58 : szOf T 58 = some 3 := rfl
attribute [go_sem] T_58 K_58 Z_58
theorem T_61 : T 61 = some (tiSt [(0, 34), (1, 34), (2, 34)] 3 72 [.s true 1 0 [], .s true 1 0 [], .s true 1 0 []]) := rfl
theorem K_61 : kindOf T 61 = .struct [(0, 34), (1, 34), (2, 34)] := rfl
theorem Z_61 : szOf T 61 = some 3 := rfl
attribute [go_sem] T_61 K_61 Z_61
theorem T_66 : T 66 = some (tiSl 58 3) := rfl
theorem K_66 : kindOf T 66 = .slice 58 := rfl
theorem Z_66 : szOf T 66 = some 1 := rfl
attribute [go_sem] T_66 K_66 Z_66
theorem T_67 : T 67 = some (tiSt [(0, 3), (1, 66)] 2 32 [.i .i64 0, .s true 3 0 []]) := rfl
theorem K_67 : kindOf T 67 = .struct [(0, 3), (1, 66)] := rfl
theorem Z_67 : szOf T 67 = some 2 := rfl
attribute [go_sem] T_67 K_67 Z_67
theorem T_68 : T 68 = some (tiSt [(0, 3), (1, 66)] 2 32 [.i .i64 0, .s true 3 0 []]) := rfl
theorem K_68 : kindOf T 68 = .struct [(0, 3), (1, 66)] := rfl
theorem Z_68 : szOf T 68 = some 2 := rfl
attribute [go_sem] T_68 K_68 Z_68
theorem T_71 : T 71 = some (tiSl 61 3) := rfl
theorem K_71 : kindOf T 71 = .slice 61 := rfl
theorem Z_71 : szOf T 71 = some 1 := rfl
attribute [go_sem] T_71 K_71 Z_71
theorem T_72 : T 72 = some (tiSt [(0, 3), (1, 71)] 2 32 [.i .i64 0, .s true 3 0 []]) := rfl
theorem K_72 : kindOf T 72 = .struct [(0, 3), (1, 71)] := rfl
theorem Z_72 : szOf T 72 = some 2 := rfl
attribute [go_sem] T_72 K_72 Z_72
theorem T_73 : T 73 = some (tiSt [(0, 3), (1, 71)] 2 32 [.i .i64 0, .s true 3 0 []]) := rfl
theorem K_73 : kindOf T 73 = .struct [(0, 3), (1, 71)] := rfl
theorem Z_73 : szOf T 73 = some 2 := rfl
attribute [go_sem] T_73 K_73 Z_73
theorem T_85 : T 85 = some (tiSt [(0, 3), (1, 3)] 2 16 [.i .i64 0, .i .i64 0]) := rfl
theorem K_85 : kindOf T 85 = .struct [(0, 3), (1, 3)] := rfl
theorem Z_85 : szOf T 85 = some 2 := rfl
attribute [go_sem] T_85 K_85 Z_85
theorem T_86 : T 86 = some (tiSt [(0, 3), (1, 3)] 2 16 [.i .i64 0, .i .i64 0]) := rfl
theorem K_86 : kindOf T 86 = .struct [(0, 3), (1, 3)] := rfl
theorem Z_86 : szOf T 86 = some 2 := rfl
attribute [go_sem] T_86 K_86 Z_86
theorem T_88 : T 88 = some (tiSt [(0, 3), (1, 3)] 2 16 [.i .i64 0, .i .i64 0]) := rfl
theorem K_88 : kindOf T 88 = .struct [(0, 3), (1, 3)] := rfl
theorem Z_88 : szOf T 88 = some 2 := rfl
attribute [go_sem] T_88 K_88 Z_88
theorem T_121 : T 121 = some (tiAr 16 4 16 16 [.b false, .b false, .b false, .b false, .b false, .b false, .b false, .b false, .b false, .b false, .b false, .b false, .b false, .b false, .b false, .b false]) := rfl
theorem K_121 : kindOf T 121 = .array 16 4 := rfl
theorem Z_121 : szOf T 121 = some 16 := rfl
attribute [go_sem] T_121 K_121 Z_121
theorem T_122 : T 122 = some (tiSt [(0, 73), (2, 121), (18, 3)] 19 56 [.i .i64 0, .s true 3 0 [], .b false, .b false, .b false, .b false, .b false, .b false, .b false, .b false, .b false, .b false, .b false, .b false, .b false, .b false, .b false, .b false, .i .i64 0]) := rfl
theorem K_122 : kindOf T 122 = .struct [(0, 73), (2, 121), (18, 3)] := rfl
theorem Z_122 : szOf T 122 = some 19 := rfl
attribute [go_sem] T_122 K_122 Z_122
theorem T_123 : T 123 = some (tiSt [(0, 73), (2, 121), (18, 3)] 19 56 [.i .i64 0, .s true 3 0 [], .b false, .b false, .b false, .b false, .b false, .b false, .b false, .b false, .b false, .b false, .b false, .b false, .b false, .b false, .b false, .b false, .i .i64 0]) := rfl
theorem K_123 : kindOf T 123 = .struct [(0, 73), (2, 121), (18, 3)] := rfl
theorem Z_123 : szOf T 123 = some 19 := rfl
attribute [go_sem] T_123 K_123 Z_123
theorem T_133 : T 133 = some (tiSl 26 1) := rfl
theorem K_133 : kindOf T 133 = .slice 26 := rfl
theorem Z_133 : szOf T 133 = some 1 := rfl
attribute [go_sem] T_133 K_133 Z_133
theorem T_134 : T 134 = some (tiSt [(0, 133), (1, 71)] 2 48 [.s true 1 0 [], .s true 3 0 []]) := rfl
theorem K_134 : kindOf T 134 = .struct [(0, 133), (1, 71)] := rfl
theorem Z_134 : szOf T 134 = some 2 := rfl
attribute [go_sem] T_134 K_134 Z_134
theorem T_135 : T 135 = some (tiSt [(0, 133), (1, 71)] 2 48 [.s true 1 0 [], .s true 3 0 []]) := rfl
theorem K_135 : kindOf T 135 = .struct [(0, 133), (1, 71)] := rfl
theorem Z_135 : szOf T 135 = some 2 := rfl
attribute [go_sem] T_135 K_135 Z_135
theorem T_143 : T 143 = some (tiAr 16 3 16 128 [.i .i64 0, .i .i64 0, .i .i64 0, .i .i64 0, .i .i64 0, .i .i64 0, .i .i64 0, .i .i64 0, .i .i64 0, .i .i64 0, .i .i64 0, .i .i64 0, .i .i64 0, .i .i64 0, .i .i64 0, .i .i64 0]) := rfl
theorem K_143 : kindOf T 143 = .array 16 3 := rfl
theorem Z_143 : szOf T 143 = some 16 := rfl
attribute [go_sem] T_143 K_143 Z_143
theorem T_151 : T 151 = some (tiSl 34 1) := rfl
theorem K_151 : kindOf T 151 = .slice 34 := rfl
theorem Z_151 : szOf T 151 = some 1 := rfl
attribute [go_sem] T_151 K_151 Z_151
theorem T_154 : T 154 = some ⟨.pointer 123, false, 1, 8, [.und]⟩ := rfl
theorem K_154 : kindOf T 154 = .pointer 123 := rfl
theorem Z_154 : szOf T 154 = some 1 := rfl
attribute [go_sem] T_154 K_154 Z_154
theorem T_159 : T 159 = some ⟨.pointer 135, false, 1, 8, [.und]⟩ := rfl
theorem K_159 : kindOf T 159 = .pointer 135 := rfl
theorem Z_159 : szOf T 159 = some 1 := rfl
attribute [go_sem] T_159 K_159 Z_159
theorem tabOk : TabOk Try.prog T := by
  intro t ti h
  unfold T at h
  split at h <;> first | (cases h; exact tiB_ok (by kernel_rfl)) | cases h
end Go.TM
