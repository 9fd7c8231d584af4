/- The types of the given program, as M reads them. -/
import Derived.Test.YtcapjjmikapmfaaMq
import Derived.Test.YtcapjjmikapmfaaProg
set_option linter.unusedVariables false
namespace Go.Proofs.Ytcapjjmikapmfaa.M
open Go Go.Proofs

attribute [go_sem] Go.Proofs.Try.underlying3
@[go_sem] theorem kind_3 : kindOf Try.prog 3 = some none := by kernel_rfl
@[go_sem] theorem sz_3 : szOf Try.prog 3 = some 1 := by kernel_rfl
@[go_sem] theorem bt_3 : bytesOf Try.prog 3 = some 8 := by kernel_rfl
@[go_sem] theorem zc_3 : zc Try.prog 3 = some [.int .i64 0] := by kernel_rfl
attribute [go_sem] Go.Proofs.Try.underlying4
@[go_sem] theorem kind_4 : kindOf Try.prog 4 = some none := by kernel_rfl
@[go_sem] theorem sz_4 : szOf Try.prog 4 = some 1 := by kernel_rfl
@[go_sem] theorem bt_4 : bytesOf Try.prog 4 = some 1 := by kernel_rfl
@[go_sem] theorem zc_4 : zc Try.prog 4 = some [.bool false] := by kernel_rfl
attribute [go_sem] Go.Proofs.Try.underlying5
@[go_sem] theorem kind_5 : kindOf Try.prog 5 = some none := by kernel_rfl
@[go_sem] theorem sz_5 : szOf Try.prog 5 = some 1 := by kernel_rfl
@[go_sem] theorem bt_5 : bytesOf Try.prog 5 = some 1 := by kernel_rfl
@[go_sem] theorem zc_5 : zc Try.prog 5 = some [u8 0] := by kernel_rfl
attribute [go_sem] Go.Proofs.Try.underlying22
@[go_sem] theorem kind_22 : kindOf Try.prog 22 = some none := by kernel_rfl
@[go_sem] theorem sz_22 : szOf Try.prog 22 = some 1 := by kernel_rfl
@[go_sem] theorem bt_22 : bytesOf Try.prog 22 = some 4 := by kernel_rfl
@[go_sem] theorem zc_22 : zc Try.prog 22 = some [u32 0] := by kernel_rfl
attribute [go_sem] Go.Proofs.Try.underlying25
@[go_sem] theorem kind_25 : kindOf Try.prog 25 = some none := by kernel_rfl
@[go_sem] theorem sz_25 : szOf Try.prog 25 = some 1 := by kernel_rfl
@[go_sem] theorem bt_25 : bytesOf Try.prog 25 = some 8 := by kernel_rfl
@[go_sem] theorem zc_25 : zc Try.prog 25 = some [u64 0] := by kernel_rfl
attribute [go_sem] Go.Proofs.Try.underlying31
@[go_sem] theorem kind_31 : kindOf Try.prog 31 = some none := by kernel_rfl
@[go_sem] theorem sz_31 : szOf Try.prog 31 = some 1 := by kernel_rfl
@[go_sem] theorem bt_31 : bytesOf Try.prog 31 = some 8 := by kernel_rfl
@[go_sem] theorem zc_31 : zc Try.prog 31 = some [.pointer none] := by kernel_rfl
attribute [go_sem] Go.Proofs.Try.underlying33
@[go_sem] theorem kind_33 : kindOf Try.prog 33 = some none := by kernel_rfl
@[go_sem] theorem sz_33 : szOf Try.prog 33 = some 1 := by kernel_rfl
@[go_sem] theorem bt_33 : bytesOf Try.prog 33 = some 8 := by kernel_rfl
@[go_sem] theorem zc_33 : zc Try.prog 33 = some [.pointer none] := by kernel_rfl
attribute [go_sem] Go.Proofs.Try.underlying40
@[go_sem] theorem kind_40 : kindOf Try.prog 40 = some none := by kernel_rfl
@[go_sem] theorem sz_40 : szOf Try.prog 40 = some 1 := by kernel_rfl
@[go_sem] theorem bt_40 : bytesOf Try.prog 40 = some 8 := by kernel_rfl
@[go_sem] theorem zc_40 : zc Try.prog 40 = some [.map none] := by kernel_rfl
attribute [go_sem] Go.Proofs.Try.underlying47
@[go_sem] theorem kind_47 : kindOf Try.prog 47 = some none := by kernel_rfl
@[go_sem] theorem sz_47 : szOf Try.prog 47 = some 1 := by kernel_rfl
@[go_sem] theorem bt_47 : bytesOf Try.prog 47 = some 24 := by kernel_rfl
@[go_sem] theorem zc_47 : zc Try.prog 47 = some [.slice none 0 0] := by kernel_rfl
attribute [go_sem] Go.Proofs.Try.underlying48
@[go_sem] theorem kind_48 : kindOf Try.prog 48 = some none := by kernel_rfl
@[go_sem] theorem sz_48 : szOf Try.prog 48 = some 1 := by kernel_rfl
@[go_sem] theorem bt_48 : bytesOf Try.prog 48 = some 8 := by kernel_rfl
@[go_sem] theorem zc_48 : zc Try.prog 48 = some [.int .i64 0] := by kernel_rfl
attribute [go_sem] Go.Proofs.Try.underlying51
@[go_sem] theorem kind_51 : kindOf Try.prog 51 = some none := by kernel_rfl
@[go_sem] theorem sz_51 : szOf Try.prog 51 = some 1 := by kernel_rfl
@[go_sem] theorem bt_51 : bytesOf Try.prog 51 = some 8 := by kernel_rfl
@[go_sem] theorem zc_51 : zc Try.prog 51 = some [u64 0] := by kernel_rfl
attribute [go_sem] Go.Proofs.Try.underlying74
@[go_sem] theorem kind_74 : kindOf Try.prog 74 = some none := by kernel_rfl
@[go_sem] theorem sz_74 : szOf Try.prog 74 = some 1 := by kernel_rfl
@[go_sem] theorem bt_74 : bytesOf Try.prog 74 = some 8 := by kernel_rfl
@[go_sem] theorem zc_74 : zc Try.prog 74 = some [.pointer none] := by kernel_rfl
attribute [go_sem] Go.Proofs.Try.underlying79
@[go_sem] theorem kind_79 : kindOf Try.prog 79 = some none := by kernel_rfl
@[go_sem] theorem sz_79 : szOf Try.prog 79 = some 1 := by kernel_rfl
@[go_sem] theorem bt_79 : bytesOf Try.prog 79 = some 24 := by kernel_rfl
@[go_sem] theorem zc_79 : zc Try.prog 79 = some [.slice none 0 0] := by kernel_rfl
attribute [go_sem] Go.Proofs.Try.underlying103
@[go_sem] theorem kind_103 : kindOf Try.prog 103 = some (some 16) := by kernel_rfl
@[go_sem] theorem sz_103 : szOf Try.prog 103 = some 16 := by kernel_rfl
@[go_sem] theorem zc_103 : zc Try.prog 103 = some (List.replicate 16 (u32 0)) := by kernel_rfl
attribute [go_sem] Go.Proofs.Try.underlying104
@[go_sem] theorem kind_104 : kindOf Try.prog 104 = some (some 64) := by kernel_rfl
@[go_sem] theorem sz_104 : szOf Try.prog 104 = some 64 := by kernel_rfl
@[go_sem] theorem zc_104 : zc Try.prog 104 = some (List.replicate 64 (u32 0)) := by kernel_rfl
attribute [go_sem] Go.Proofs.Try.underlying106
@[go_sem] theorem kind_106 : kindOf Try.prog 106 = some (some 8) := by kernel_rfl
@[go_sem] theorem sz_106 : szOf Try.prog 106 = some 8 := by kernel_rfl
@[go_sem] theorem zc_106 : zc Try.prog 106 = some (List.replicate 8 (u32 0)) := by kernel_rfl
attribute [go_sem] Go.Proofs.Try.underlying107
@[go_sem] theorem kind_107 : kindOf Try.prog 107 = some (some 8) := by kernel_rfl
@[go_sem] theorem sz_107 : szOf Try.prog 107 = some 8 := by kernel_rfl
@[go_sem] theorem zc_107 : zc Try.prog 107 = some (List.replicate 8 (u32 0)) := by kernel_rfl
attribute [go_sem] Go.Proofs.Try.underlying112
@[go_sem] theorem kind_112 : kindOf Try.prog 112 = some (some 2) := by kernel_rfl
@[go_sem] theorem sz_112 : szOf Try.prog 112 = some 2 := by kernel_rfl
@[go_sem] theorem zc_112 : zc Try.prog 112 = some (List.replicate 2 (u64 0)) := by kernel_rfl
attribute [go_sem] Go.Proofs.Try.underlying113
@[go_sem] theorem kind_113 : kindOf Try.prog 113 = some (some 3) := by kernel_rfl
@[go_sem] theorem sz_113 : szOf Try.prog 113 = some 3 := by kernel_rfl
@[go_sem] theorem zc_113 : zc Try.prog 113 = some (List.replicate 3 (u64 0)) := by kernel_rfl
attribute [go_sem] Go.Proofs.Try.underlying114
@[go_sem] theorem kind_114 : kindOf Try.prog 114 = some (some 3) := by kernel_rfl
@[go_sem] theorem sz_114 : szOf Try.prog 114 = some 3 := by kernel_rfl
@[go_sem] theorem zc_114 : zc Try.prog 114 = some (List.replicate 3 (u64 0)) := by kernel_rfl
attribute [go_sem] Go.Proofs.Try.underlying116
@[go_sem] theorem kind_116 : kindOf Try.prog 116 = some (some 4) := by kernel_rfl
@[go_sem] theorem sz_116 : szOf Try.prog 116 = some 4 := by kernel_rfl
@[go_sem] theorem zc_116 : zc Try.prog 116 = some (List.replicate 4 (u64 0)) := by kernel_rfl
attribute [go_sem] Go.Proofs.Try.underlying120
@[go_sem] theorem kind_120 : kindOf Try.prog 120 = some (some 17) := by kernel_rfl
@[go_sem] theorem sz_120 : szOf Try.prog 120 = some 17 := by kernel_rfl
@[go_sem] theorem zc_120 : zc Try.prog 120 = some (List.replicate 17 (u64 0)) := by kernel_rfl
attribute [go_sem] Go.Proofs.Try.underlying84
@[go_sem] theorem kind_84 : kindOf Try.prog 84 = some (some 4) := by kernel_rfl
@[go_sem] theorem sz_84 : szOf Try.prog 84 = some 4 := by kernel_rfl
@[go_sem] theorem zc_84 : zc Try.prog 84 = some (List.replicate 4 (.int .i64 0)) := by kernel_rfl
attribute [go_sem] Go.Proofs.Try.underlying85
@[go_sem] theorem kind_85 : kindOf Try.prog 85 = some (some 3) := by kernel_rfl
@[go_sem] theorem sz_85 : szOf Try.prog 85 = some 3 := by kernel_rfl
@[go_sem] theorem zc_85 : zc Try.prog 85 = some (List.replicate 3 (.int .i64 0)) := by kernel_rfl
attribute [go_sem] Go.Proofs.Try.underlying86
@[go_sem] theorem kind_86 : kindOf Try.prog 86 = some (some 18) := by kernel_rfl
@[go_sem] theorem sz_86 : szOf Try.prog 86 = some 18 := by kernel_rfl
@[go_sem] theorem zc_86 : zc Try.prog 86 = some (List.replicate 18 (.int .i64 0)) := by kernel_rfl
attribute [go_sem] Go.Proofs.Try.underlying52
@[go_sem] theorem kind_52 : kindOf Try.prog 52 = some (some 2) := by kernel_rfl
@[go_sem] theorem sz_52 : szOf Try.prog 52 = some 2 := by kernel_rfl
@[go_sem] theorem zc_52 : zc Try.prog 52 = some (List.replicate 2 (.slice none 0 0)) := by kernel_rfl
attribute [go_sem] Go.Proofs.Try.underlying36
@[go_sem] theorem kind_36 : kindOf Try.prog 36 = some (some 3) := by kernel_rfl
@[go_sem] theorem sz_36 : szOf Try.prog 36 = some 3 := by kernel_rfl
@[go_sem] theorem bt_36 : bytesOf Try.prog 36 = some 24 := by kernel_rfl
@[go_sem] theorem zc_36 : zc Try.prog 36 = some ([.bool false, .int .i64 0, .int .i64 0]) := by kernel_rfl
attribute [go_sem] Go.Proofs.Try.underlying42
@[go_sem] theorem kind_42 : kindOf Try.prog 42 = some (some 2) := by kernel_rfl
@[go_sem] theorem sz_42 : szOf Try.prog 42 = some 2 := by kernel_rfl
@[go_sem] theorem bt_42 : bytesOf Try.prog 42 = some 16 := by kernel_rfl
@[go_sem] theorem zc_42 : zc Try.prog 42 = some ([.map none, .int .i64 0]) := by kernel_rfl
attribute [go_sem] Go.Proofs.Try.underlying94
@[go_sem] theorem kind_94 : kindOf Try.prog 94 = some (some 2) := by kernel_rfl
@[go_sem] theorem sz_94 : szOf Try.prog 94 = some 2 := by kernel_rfl
@[go_sem] theorem bt_94 : bytesOf Try.prog 94 = some 16 := by kernel_rfl
@[go_sem] theorem zc_94 : zc Try.prog 94 = some ([.map none, .int .i64 0]) := by kernel_rfl
attribute [go_sem] Go.Proofs.Try.underlying110
@[go_sem] theorem kind_110 : kindOf Try.prog 110 = some (some 10) := by kernel_rfl
@[go_sem] theorem sz_110 : szOf Try.prog 110 = some 10 := by kernel_rfl
@[go_sem] theorem bt_110 : bytesOf Try.prog 110 = some 64 := by kernel_rfl
@[go_sem] theorem zc_110 : zc Try.prog 110 = some (List.replicate 8 (u32 0) ++ [.slice none 0 0, .int .i64 0]) := by kernel_rfl

end Go.Proofs.Ytcapjjmikapmfaa.M
