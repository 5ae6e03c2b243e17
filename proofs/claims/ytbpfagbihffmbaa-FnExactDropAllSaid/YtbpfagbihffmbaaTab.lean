/- The types of the program, as the tree machine has them. -/
import Derived.Test.YtbpfagbihffmbaaTmD
import Derived.Test.YtbpfagbihffmbaaChecked
import Derived.KernelRfl
namespace Go.TM
open Go.Proofs
set_option linter.unusedVariables false
set_option linter.unusedSimpArgs false
def T : Nat → Option TI
  | 2 => some tiInt
  | 3 => some tiInt
  | 4 => some tiBool
  | 5 => some tiU8
  | 22 => some (tiSl 111 3)
  | 23 => some (tiSt [(0, 3), (1, 22)] 2 32 [.i .i64 0, .s true 3 0 []])
  | 24 => some (tiSt [(0, 3), (1, 22)] 2 32 [.i .i64 0, .s true 3 0 []])
  | 26 => some (tiSl 85 3)
  | 27 => some (tiSt [(0, 3), (1, 26)] 2 32 [.i .i64 0, .s true 3 0 []])
  | 28 => some (tiSt [(0, 3), (1, 26)] 2 32 [.i .i64 0, .s true 3 0 []])
  | 35 => some (tiSl 3 1)
  | 41 => some (tiSl 50 2)
  | 44 => some (tiSl 52 2)
  | 49 => some (tiSt [(0, 3), (1, 3)] 2 16 [.i .i64 0, .i .i64 0])
  | 50 => some (tiSt [(0, 3), (1, 3)] 2 16 [.i .i64 0, .i .i64 0])
  | 52 => some (tiSt [(0, 3), (1, 3)] 2 16 [.i .i64 0, .i .i64 0])
  | 56 => some (tiSl 35 1)
  | 84 => some (tiSt [(0, 35), (1, 35), (2, 35)] 3 72 [.s true 1 0 [], .s true 1 0 [], .s true 1 0 []])
  | 85 => some (tiSt [(0, 35), (1, 35), (2, 35)] 3 72 [.s true 1 0 [], .s true 1 0 [], .s true 1 0 []])
  | 92 => some (tiSt [(0, 35), (1, 35)] 2 48 [.s true 1 0 [], .s true 1 0 []])
  | 93 => some (tiSt [(0, 35), (1, 35)] 2 48 [.s true 1 0 [], .s true 1 0 []])
  | 111 => some (tiSt [(0, 35), (1, 35), (2, 35)] 3 72 [.s true 1 0 [], .s true 1 0 [], .s true 1 0 []])
  | 122 => some (tiAr 16 4 16 16 [.b false, .b false, .b false, .b false, .b false, .b false, .b false, .b false, .b false, .b false, .b false, .b false, .b false, .b false, .b false, .b false])
  | 123 => some (tiSt [(0, 26), (1, 122), (17, 3)] 18 48 [.s true 3 0 [], .b false, .b false, .b false, .b false, .b false, .b false, .b false, .b false, .b false, .b false, .b false, .b false, .b false, .b false, .b false, .b false, .i .i64 0])
  | 124 => some (tiSt [(0, 26), (1, 122), (17, 3)] 18 48 [.s true 3 0 [], .b false, .b false, .b false, .b false, .b false, .b false, .b false, .b false, .b false, .b false, .b false, .b false, .b false, .b false, .b false, .b false, .i .i64 0])
  | 128 => some (tiSt [(0, 28), (2, 122), (18, 3)] 19 56 [.i .i64 0, .s true 3 0 [], .b false, .b false, .b false, .b false, .b false, .b false, .b false, .b false, .b false, .b false, .b false, .b false, .b false, .b false, .b false, .b false, .i .i64 0])
  | 129 => some (tiSt [(0, 28), (2, 122), (18, 3)] 19 56 [.i .i64 0, .s true 3 0 [], .b false, .b false, .b false, .b false, .b false, .b false, .b false, .b false, .b false, .b false, .b false, .b false, .b false, .b false, .b false, .b false, .i .i64 0])
  | 146 => some ⟨.pointer 124, false, 1, 8, [.und]⟩
  | 150 => some (tiAr 16 3 16 128 [.i .i64 0, .i .i64 0, .i .i64 0, .i .i64 0, .i .i64 0, .i .i64 0, .i .i64 0, .i .i64 0, .i .i64 0, .i .i64 0, .i .i64 0, .i .i64 0, .i .i64 0, .i .i64 0, .i .i64 0, .i .i64 0])
  | 151 => some ⟨.pointer 129, false, 1, 8, [.und]⟩
  | 160 => some (tiSl 44 1)
  | _ => none
theorem T_2 : T 2 = some tiInt := rfl
theorem K_2 : kindOf T 2 = .int .i64 := rfl
theorem Z_2 : szOf T 2 = some 1 := rfl
attribute [go_sem] T_2 K_2 Z_2
theorem T_3 : T 3 = some tiInt := rfl
theorem K_3 : kindOf T 3 = .int .i64 := rfl
theorem Z_3 : szOf T 3 = some 1 := rfl
attribute [go_sem] T_3 K_3 Z_3
theorem T_4 : T 4 = some tiBool := rfl
theorem K_4 : kindOf T 4 = .bool := rfl
theorem Z_4 : szOf T 4 = some 1 := rfl
attribute [go_sem] T_4 K_4 Z_4
theorem T_5 : T 5 = some tiU8 := rfl
theorem K_5 : kindOf T 5 = .int .u8 := rfl
theorem Z_5 : szOf T 5 = some 1 := rfl
attribute [go_sem] T_5 K_5 Z_5
theorem T_22 : T 22 = some (tiSl 111 3) := rfl
theorem K_22 : kindOf T 22 = .slice 111 := rfl
theorem Z_22 : szOf T 22 = some 1 := rfl
attribute [go_sem] T_22 K_22 Z_22
theorem T_23 : T 23 = some (tiSt [(0, 3), (1, 22)] 2 32 [.i .i64 0, .s true 3 0 []]) := rfl
theorem K_23 : kindOf T 23 = .struct [(0, 3), (1, 22)] := rfl
theorem Z_23 : szOf T 23 = some 2 := rfl
attribute [go_sem] T_23 K_23 Z_23
theorem T_24 : T 24 = some (tiSt [(0, 3), (1, 22)] 2 32 [.i .i64 0, .s true 3 0 []]) := rfl
theorem K_24 : kindOf T 24 = .struct [(0, 3), (1, 22)] := rfl
theorem Z_24 : szOf T 24 = some 2 := rfl
attribute [go_sem] T_24 K_24 Z_24
theorem T_26 : T 26 = some (tiSl 85 3) := rfl
theorem K_26 : kindOf T 26 = .slice 85 := rfl
theorem Z_26 : szOf T 26 = some 1 := rfl
attribute [go_sem] T_26 K_26 Z_26
theorem T_27 : T 27 = some (tiSt [(0, 3), (1, 26)] 2 32 [.i .i64 0, .s true 3 0 []]) := rfl
theorem K_27 : kindOf T 27 = .struct [(0, 3), (1, 26)] := rfl
theorem Z_27 : szOf T 27 = some 2 := rfl
attribute [go_sem] T_27 K_27 Z_27
theorem T_28 : T 28 = some (tiSt [(0, 3), (1, 26)] 2 32 [.i .i64 0, .s true 3 0 []]) := rfl
theorem K_28 : kindOf T 28 = .struct [(0, 3), (1, 26)] := rfl
theorem Z_28 : szOf T 28 = some 2 := rfl
attribute [go_sem] T_28 K_28 Z_28
theorem T_35 : T 35 = some (tiSl 3 1) := rfl
theorem K_35 : kindOf T 35 = .slice 3 := rfl
theorem Z_35 : szOf T 35 = some 1 := rfl
attribute [go_sem] T_35 K_35 Z_35
theorem T_41 : T 41 = some (tiSl 50 2) := rfl
theorem K_41 : kindOf T 41 = .slice 50 := rfl
theorem Z_41 : szOf T 41 = some 1 := rfl
attribute [go_sem] T_41 K_41 Z_41
theorem T_44 : T 44 = some (tiSl 52 2) := rfl
theorem K_44 : kindOf T 44 = .slice 52 := rfl
theorem Z_44 : szOf T 44 = some 1 := rfl
attribute [go_sem] T_44 K_44 Z_44
theorem T_49 : T 49 = some (tiSt [(0, 3), (1, 3)] 2 16 [.i .i64 0, .i .i64 0]) := rfl
theorem K_49 : kindOf T 49 = .struct [(0, 3), (1, 3)] := rfl
theorem Z_49 : szOf T 49 = some 2 := rfl
attribute [go_sem] T_49 K_49 Z_49
theorem T_50 : T 50 = some (tiSt [(0, 3), (1, 3)] 2 16 [.i .i64 0, .i .i64 0]) := rfl
theorem K_50 : kindOf T 50 = .struct [(0, 3), (1, 3)] := rfl
theorem Z_50 : szOf T 50 = some 2 := rfl
attribute [go_sem] T_50 K_50 Z_50
theorem T_52 : T 52 = some (tiSt [(0, 3), (1, 3)] 2 16 [.i .i64 0, .i .i64 0]) := rfl
theorem K_52 : kindOf T 52 = .struct [(0, 3), (1, 3)] := rfl
theorem Z_52 : szOf T 52 = some 2 := rfl
attribute [go_sem] T_52 K_52 Z_52
theorem T_56 : T 56 = some (tiSl 35 1) := rfl
theorem K_56 : kindOf T 56 = .slice 35 := rfl
theorem Z_56 : szOf T 56 = some 1 := rfl
attribute [go_sem] T_56 K_56 Z_56
theorem T_84 : T 84 = some (tiSt [(0, 35), (1, 35), (2, 35)] 3 72 [.s true 1 0 [], .s true 1 0 [], .s true 1 0 []]) := rfl
theorem K_84 : kindOf T 84 = .struct [(0, 35), (1, 35), (2, 35)] := rfl
theorem Z_84 : szOf T 84 = some 3 := rfl
attribute [go_sem] T_84 K_84 Z_84
theorem T_85 : T 85 = some (tiSt [(0, 35), (1, 35), (2, 35)] 3 72 [.s true 1 0 [], .s true 1 0 [], .s true 1 0 []]) := rfl
theorem K_85 : kindOf T 85 = .struct [(0, 35), (1, 35), (2, 35)] := rfl
theorem Z_85 : szOf T 85 = some 3 := rfl
attribute [go_sem] T_85 K_85 Z_85
theorem T_92 : T 92 = some (tiSt [(0, 35), (1, 35)] 2 48 [.s true 1 0 [], .s true 1 0 []]) := rfl
theorem K_92 : kindOf T 92 = .struct [(0, 35), (1, 35)] := rfl
theorem Z_92 : szOf T 92 = some 2 := rfl
attribute [go_sem] T_92 K_92 Z_92
theorem T_93 : T 93 = some (tiSt [(0, 35), (1, 35)] 2 48 [.s true 1 0 [], .s true 1 0 []]) := rfl
theorem K_93 : kindOf T 93 = .struct [(0, 35), (1, 35)] := rfl
theorem Z_93 : szOf T 93 = some 2 := rfl
attribute [go_sem] T_93 K_93 Z_93
theorem T_111 : T 111 = some (tiSt [(0, 35), (1, 35), (2, 35)] 3 72 [.s true 1 0 [], .s true 1 0 [], .s true 1 0 []]) := rfl
theorem K_111 : kindOf T 111 = .struct [(0, 35), (1, 35), (2, 35)] := rfl
theorem Z_111 : szOf T 111 = some 3 := rfl
attribute [go_sem] T_111 K_111 Z_111
theorem T_122 : T 122 = some (tiAr 16 4 16 16 [.b false, .b false, .b false, .b false, .b false, .b false, .b false, .b false, .b false, .b false, .b false, .b false, .b false, .b false, .b false, .b false]) := rfl
theorem K_122 : kindOf T 122 = .array 16 4 := rfl
theorem Z_122 : szOf T 122 = some 16 := rfl
attribute [go_sem] T_122 K_122 Z_122
theorem T_123 : T 123 = some (tiSt [(0, 26), (1, 122), (17, 3)] 18 48 [.s true 3 0 [], .b false, .b false, .b false, .b false, .b false, .b false, .b false, .b false, .b false, .b false, .b false, .b false, .b false, .b false, .b false, .b false, .i .i64 0]) := rfl
theorem K_123 : kindOf T 123 = .struct [(0, 26), (1, 122), (17, 3)] := rfl
theorem Z_123 : szOf T 123 = some 18 := rfl
attribute [go_sem] T_123 K_123 Z_123
theorem T_124 : T 124 = some (tiSt [(0, 26), (1, 122), (17, 3)] 18 48 [.s true 3 0 [], .b false, .b false, .b false, .b false, .b false, .b false, .b false, .b false, .b false, .b false, .b false, .b false, .b false, .b false, .b false, .b false, .i .i64 0]) := rfl
theorem K_124 : kindOf T 124 = .struct [(0, 26), (1, 122), (17, 3)] := rfl
theorem Z_124 : szOf T 124 = some 18 := rfl
attribute [go_sem] T_124 K_124 Z_124
theorem T_128 : T 128 = some (tiSt [(0, 28), (2, 122), (18, 3)] 19 56 [.i .i64 0, .s true 3 0 [], .b false, .b false, .b false, .b false, .b false, .b false, .b false, .b false, .b false, .b false, .b false, .b false, .b false, .b false, .b false, .b false, .i .i64 0]) := rfl
theorem K_128 : kindOf T 128 = .struct [(0, 28), (2, 122), (18, 3)] := rfl
theorem Z_128 : szOf T 128 = some 19 := rfl
attribute [go_sem] T_128 K_128 Z_128
theorem T_129 : T 129 = some (tiSt [(0, 28), (2, 122), (18, 3)] 19 56 [.i .i64 0, .s true 3 0 [], .b false, .b false, .b false, .b false, .b false, .b false, .b false, .b false, .b false, .b false, .b false, .b false, .b false, .b false, .b false, .b false, .i .i64 0]) := rfl
theorem K_129 : kindOf T 129 = .struct [(0, 28), (2, 122), (18, 3)] := rfl
theorem Z_129 : szOf T 129 = some 19 := rfl
attribute [go_sem] T_129 K_129 Z_129
theorem T_146 : T 146 = some ⟨.pointer 124, false, 1, 8, [.und]⟩ := rfl
theorem K_146 : kindOf T 146 = .pointer 124 := rfl
theorem Z_146 : szOf T 146 = some 1 := rfl
attribute [go_sem] T_146 K_146 Z_146
theorem T_150 : T 150 = some (tiAr 16 3 16 128 [.i .i64 0, .i .i64 0, .i .i64 0, .i .i64 0, .i .i64 0, .i .i64 0, .i .i64 0, .i .i64 0, .i .i64 0, .i .i64 0, .i .i64 0, .i .i64 0, .i .i64 0, .i .i64 0, .i .i64 0, .i .i64 0]) := rfl
theorem K_150 : kindOf T 150 = .array 16 3 := rfl
theorem Z_150 : szOf T 150 = some 16 := rfl
attribute [go_sem] T_150 K_150 Z_150
theorem T_151 : T 151 = some ⟨.pointer 129, false, 1, 8, [.und]⟩ := rfl
theorem K_151 : kindOf T 151 = .pointer 129 := rfl
theorem Z_151 : szOf T 151 = some 1 := rfl
attribute [go_sem] T_151 K_151 Z_151
theorem T_160 : T 160 = some (tiSl 44 1) := rfl
theorem K_160 : kindOf T 160 = .slice 44 := rfl
theorem Z_160 : szOf T 160 = some 1 := rfl
attribute [go_sem] T_160 K_160 Z_160
theorem tabOk : TabOk Try.prog T := by
  intro t ti h
  unfold T at h
  split at h <;> first | (cases h; exact tiB_ok (by kernel_rfl)) | cases h
end Go.TM
