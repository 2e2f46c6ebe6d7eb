/- Slim code of 15 functions, each held against the program by the kernel. -/
import Derived.Test.YtojbbajmldbffaaProg
import Derived.Test.YtojbbajmldbffaaDefer
import Derived.KernelRfl
set_option maxRecDepth 100000
namespace Go.Proofs.Ytojbbajmldbffaa
open Go.Shu

/- 28: shunter/frame.table -/
def h28 : List (Nat × ST × List OD) := []
def s28 : SF := ⟨3, [.t 0], .seq (.ops [
    ⟨(some 0), .mv (.const (.map none)), none⟩]) (.seq (.ops [
    ⟨(some 1), .raw (.makeMap 92 none) 92, none⟩,
    ⟨none, .raw (.insert 92 (.tmp 1) (.const (.int .i64 0)) (.func 51)) 0, none⟩,
    ⟨none, .raw (.insert 92 (.tmp 1) (.const (.int .i64 1)) (.func 52)) 0, none⟩,
    ⟨none, .raw (.insert 92 (.tmp 1) (.const (.int .i64 2)) (.func 53)) 0, none⟩,
    ⟨none, .raw (.insert 92 (.tmp 1) (.const (.int .i64 3)) (.func 54)) 0, none⟩,
    ⟨none, .raw (.insert 92 (.tmp 1) (.const (.int .i64 4)) (.func 55)) 0, none⟩,
    ⟨none, .raw (.insert 92 (.tmp 1) (.const (.int .i64 5)) (.func 56)) 0, none⟩,
    ⟨none, .raw (.insert 92 (.tmp 1) (.const (.int .i64 6)) (.func 57)) 0, none⟩,
    ⟨none, .raw (.insert 92 (.tmp 1) (.const (.int .i64 7)) (.func 58)) 0, none⟩,
    ⟨none, .raw (.insert 92 (.tmp 1) (.const (.int .i64 8)) (.func 59)) 0, none⟩,
    ⟨(some 2), .mv (.tmp 1), none⟩,
    ⟨(some 0), .mv (.tmp 2), none⟩]) (.ret))⟩
theorem sl28 : slimF Try.prog h28 Try.f28 = some s28 := by kernel_rfl

/- 23: (*shunter/frame.Frame).Pure -/
def h23 : List (Nat × ST × List OD) := [(1, .q 1 <| .q 2 <| .x 0 <| .x 3 <| .q 4 <| .q 5 <| .q 6 <| .q 7 <| .q 8 <| .n, [(0, 9, 0), (0, 10, 8), (2, 11, 512), (5, 12, 1280), (8, 8, 2048), (16, 13, 128), (16, 14, 128), (63, 6, 4096), (255, 7, 8192)])]
def s23 : SF := ⟨27, [.t 4], .seq (.ops [
    ⟨(some 3), .box 27 (.tmp 1), none⟩,
    ⟨(some 4), .mv (.const (.bool false)), none⟩]) (.seq (.draw (.q 1 ⟨(some 9), .fa 0 (.tmp 3), none⟩ <|
    .q 2 ⟨(some 10), .ld (.tmp 9), none⟩ <|
    .x [2] ⟨(some 8), .call 28 [], none⟩ <|
    .x [] ⟨(some 11), .raw (.lookup 92 (.tmp 8) (.tmp 10) true) 91, none⟩ <|
    .q 4 ⟨(some 7), .mv (.tmp 11), none⟩ <|
    .q 5 ⟨(some 12), .ext (.tmp 7) 0, none⟩ <|
    .q 6 ⟨(some 13), .ext (.tmp 7) 1, none⟩ <|
    .q 7 ⟨(some 5), .mv (.tmp 12), none⟩ <|
    .q 8 ⟨(some 6), .mv (.tmp 13), none⟩ <|
    .n)) (.seq (.seq (.ops [
    ⟨(some 14), .mv (.tmp 6), none⟩]) (.cond (.tmp 14) (.seq (.ops [
    ⟨(some 15), .mv (.tmp 0), none⟩,
    ⟨(some 16), .nil (.tmp 15), none⟩,
    ⟨(some 17), .fa 1 (.tmp 16), none⟩,
    ⟨(some 18), .ld (.tmp 17), none⟩,
    ⟨(some 19), .bin .add (.tmp 18) (.const (.int .i64 1)), none⟩,
    ⟨(some 20), .nil (.tmp 15), none⟩,
    ⟨(some 21), .fa 1 (.tmp 20), none⟩,
    ⟨none, .st 1 (.tmp 21) (.tmp 19), none⟩]) (.ops [
    ⟨(some 22), .mv (.tmp 5), none⟩,
    ⟨(some 23), .mv (.tmp 0), none⟩,
    ⟨(some 24), .lda 4 (.tmp 3), none⟩,
    ⟨(some 25), .callv (.tmp 22) [(.tmp 23), (.tmp 24)], none⟩])) (.skip))) (.seq (.ops [
    ⟨(some 26), .mv (.tmp 6), none⟩,
    ⟨(some 4), .mv (.tmp 26), none⟩]) (.ret))))⟩
theorem sl23 : slimF Try.prog h23 Try.f23 = some s23 := by kernel_rfl

/- 14: shunter/frame.Begin -/
def h14 : List (Nat × ST × List OD) := []
def s14 : SF := ⟨10, [.t 4], .seq (.ops [
    ⟨(some 4), .mv (.const (.slice none 0 0)), none⟩]) (.seq (.ops [
    ⟨(some 5), .mv (.tmp 0), none⟩,
    ⟨(some 6), .mv (.tmp 1), none⟩,
    ⟨(some 7), .bd [(.int .i64 0), (.int .i64 0), (.int .i64 0), (.int .i64 0), (.int .i64 0), (.int .i64 0), (.int .i64 0), (.int .i64 0)] [(0, 1, (.tmp 6))], none⟩,
    ⟨(some 8), .bd [(.int .i64 0), (.int .i64 0), (.int .i64 0), (.int .i64 0), (.int .i64 0), (.int .i64 0), (.int .i64 0), (.int .i64 0), (.int .i64 0), (.int .i64 0), (.int .i64 0)] [(0, 1, (.tmp 5)), (2, 8, (.tmp 7))], none⟩,
    ⟨(some 9), .bs 72 1 [(.int .i64 0), (.int .i64 0), (.int .i64 0), (.int .i64 0), (.int .i64 0), (.int .i64 0), (.int .i64 0), (.int .i64 0), (.int .i64 0), (.int .i64 0), (.int .i64 0)] [(0, 11, (.tmp 8))], none⟩,
    ⟨(some 4), .mv (.tmp 9), none⟩]) (.ret))⟩
theorem sl14 : slimF Try.prog h14 Try.f14 = some s14 := by kernel_rfl

/- 22: (shunter/frame.Stack).Top -/
def h22 : List (Nat × ST × List OD) := []
def s22 : SF := ⟨11, [.t 2], .seq (.ops [
    ⟨(some 2), .mv (.const (.pointer none)), none⟩]) (.seq (.seq (.ops [
    ⟨(some 3), .mv (.tmp 0), none⟩,
    ⟨(some 4), .len false (.tmp 3), none⟩,
    ⟨(some 5), .bin .eql (.tmp 4) (.const (.int .i64 0)), none⟩]) (.cond (.tmp 5) (.seq (.ops [
    ⟨(some 2), .mv (.const (.pointer none)), none⟩]) (.ret)) (.skip))) (.seq (.ops [
    ⟨(some 6), .mv (.tmp 0), none⟩,
    ⟨(some 7), .mv (.tmp 0), none⟩,
    ⟨(some 8), .len false (.tmp 7), none⟩,
    ⟨(some 9), .bin .sub (.tmp 8) (.const (.int .i64 1)), none⟩,
    ⟨(some 10), .ix 11 (.tmp 6) (.tmp 9), none⟩,
    ⟨(some 2), .mv (.tmp 10), none⟩]) (.ret)))⟩
theorem sl22 : slimF Try.prog h22 Try.f22 = some s22 := by kernel_rfl

/- 67: (shunter/frame.Stack).Call -/
def h67 : List (Nat × ST × List OD) := []
def s67 : SF := ⟨27, [.t 8, .t 9], .seq (.ops [
    ⟨(some 8), .mv (.const (.slice none 0 0)), none⟩,
    ⟨(some 9), .mv (.const (.bool false)), none⟩]) (.seq (.seq (.ops [
    ⟨(some 10), .mv (.tmp 0), none⟩,
    ⟨(some 11), .len false (.tmp 10), none⟩,
    ⟨(some 12), .bin .geq (.tmp 11) (.const (.int .i64 16)), none⟩]) (.cond (.tmp 12) (.seq (.ops [
    ⟨(some 13), .mv (.tmp 0), none⟩,
    ⟨(some 8), .mv (.tmp 13), none⟩,
    ⟨(some 9), .mv (.const (.bool false)), none⟩]) (.ret)) (.skip))) (.seq (.ops [
    ⟨(some 14), .mv (.tmp 0), none⟩,
    ⟨(some 15), .mv (.tmp 0), none⟩,
    ⟨(some 16), .len false (.tmp 15), none⟩,
    ⟨(some 17), .mv (.tmp 0), none⟩,
    ⟨(some 18), .len false (.tmp 17), none⟩,
    ⟨(some 19), .sl 11 (.tmp 14) none (some (.tmp 16)) (some (.tmp 18)), none⟩,
    ⟨(some 20), .mv (.tmp 1), none⟩,
    ⟨(some 21), .mv (.tmp 2), none⟩,
    ⟨(some 22), .bd [(.int .i64 0), (.int .i64 0), (.int .i64 0), (.int .i64 0), (.int .i64 0), (.int .i64 0), (.int .i64 0), (.int .i64 0)] [(0, 1, (.tmp 21))], none⟩,
    ⟨(some 23), .mv (.tmp 3), none⟩,
    ⟨(some 24), .bd [(.int .i64 0), (.int .i64 0), (.int .i64 0), (.int .i64 0), (.int .i64 0), (.int .i64 0), (.int .i64 0), (.int .i64 0), (.int .i64 0), (.int .i64 0), (.int .i64 0)] [(0, 1, (.tmp 20)), (2, 8, (.tmp 22)), (10, 1, (.tmp 23))], none⟩,
    ⟨(some 25), .bs 72 1 [(.int .i64 0), (.int .i64 0), (.int .i64 0), (.int .i64 0), (.int .i64 0), (.int .i64 0), (.int .i64 0), (.int .i64 0), (.int .i64 0), (.int .i64 0), (.int .i64 0)] [(0, 11, (.tmp 24))], none⟩,
    ⟨(some 26), .app 72 11 88 #[(.int .i64 0), (.int .i64 0), (.int .i64 0), (.int .i64 0), (.int .i64 0), (.int .i64 0), (.int .i64 0), (.int .i64 0), (.int .i64 0), (.int .i64 0), (.int .i64 0)] (.tmp 19) (.tmp 25), none⟩,
    ⟨(some 8), .mv (.tmp 26), none⟩,
    ⟨(some 9), .mv (.const (.bool true)), none⟩]) (.ret)))⟩
theorem sl67 : slimF Try.prog h67 Try.f67 = some s67 := by kernel_rfl

/- 68: (shunter/frame.Stack).Return -/
def h68 : List (Nat × ST × List OD) := [(4, .q 0 <| .q 2 <| .q 7 <| .x 1 <| .q 8 <| .q 9 <| .x 3 <| .q 4 <| .q 5 <| .q 6 <| .q 10 <| .x 11 <| .n, [(0, 18, 64), (1, 19, 131072), (0, 20, 1), (6, 21, 524288), (8, 22, 1048576), (16, 23, 2097152), (32, 24, 4194304), (0, 25, 2), (2, 26, 262144), (256, 27, 33554432), (767, 28, 75497472), (1279, 0, 150994944)])]
def s68 : SF := ⟨29, [.t 4, .t 5], .seq (.ops [
    ⟨(some 4), .mv (.const (.slice none 0 0)), none⟩,
    ⟨(some 5), .mv (.const (.bool false)), none⟩]) (.seq (.seq (.ops [
    ⟨(some 7), .mv (.tmp 0), none⟩,
    ⟨(some 8), .len false (.tmp 7), none⟩,
    ⟨(some 9), .bin .lss (.tmp 8) (.const (.int .i64 2)), none⟩]) (.cond (.tmp 9) (.seq (.ops [
    ⟨(some 4), .mv (.const (.slice none 0 0)), none⟩,
    ⟨(some 5), .mv (.const (.bool false)), none⟩]) (.ret)) (.skip))) (.seq (.ops [
    ⟨(some 10), .bs 72 0 [] [], none⟩,
    ⟨(some 11), .mv (.tmp 0), none⟩,
    ⟨(some 12), .mv (.tmp 0), none⟩,
    ⟨(some 13), .len false (.tmp 12), none⟩,
    ⟨(some 14), .bin .sub (.tmp 13) (.const (.int .i64 1)), none⟩,
    ⟨(some 15), .sl 11 (.tmp 11) none (some (.tmp 14)) none, none⟩,
    ⟨(some 16), .app 72 11 88 #[(.int .i64 0), (.int .i64 0), (.int .i64 0), (.int .i64 0), (.int .i64 0), (.int .i64 0), (.int .i64 0), (.int .i64 0), (.int .i64 0), (.int .i64 0), (.int .i64 0)] (.tmp 10) (.tmp 15), none⟩,
    ⟨(some 6), .mv (.tmp 16), none⟩]) (.seq (.draw (.q 0 ⟨(some 17), .mv (.tmp 6), none⟩ <|
    .q 2 ⟨(some 19), .mv (.tmp 0), none⟩ <|
    .q 7 ⟨(some 24), .mv (.tmp 1), none⟩ <|
    .x [] ⟨(some 18), .call 22 [(.tmp 17)], none⟩ <|
    .q 8 ⟨(some 25), .nil (.tmp 18), none⟩ <|
    .q 9 ⟨(some 26), .fa 2 (.tmp 25), none⟩ <|
    .x [] ⟨(some 20), .call 22 [(.tmp 19)], none⟩ <|
    .q 4 ⟨(some 21), .nil (.tmp 20), none⟩ <|
    .q 5 ⟨(some 22), .fa 10 (.tmp 21), none⟩ <|
    .q 6 ⟨(some 23), .ld (.tmp 22), none⟩ <|
    .q 10 ⟨(some 27), .ixa 8 1 (.tmp 26) (.tmp 23), none⟩ <|
    .x [] ⟨none, .st 1 (.tmp 27) (.tmp 24), none⟩ <|
    .n)) (.seq (.ops [
    ⟨(some 28), .mv (.tmp 6), none⟩,
    ⟨(some 4), .mv (.tmp 28), none⟩,
    ⟨(some 5), .mv (.const (.bool true)), none⟩]) (.ret)))))⟩
theorem sl68 : slimF Try.prog h68 Try.f68 = some s68 := by kernel_rfl

/- 51: (*shunter/frame.Frame).nop -/
def h51 : List (Nat × ST × List OD) := []
def s51 : SF := ⟨4, [], .ops [
    ⟨(some 3), .box 27 (.tmp 1), none⟩]⟩
theorem sl51 : slimF Try.prog h51 Try.f51 = some s51 := by kernel_rfl

/- 52: (*shunter/frame.Frame).constant -/
def h52 : List (Nat × ST × List OD) := [(1, .q 0 <| .q 1 <| .q 2 <| .q 3 <| .q 4 <| .q 5 <| .q 6 <| .q 7 <| .x 8 <| .n, [(0, 5, 1), (0, 6, 8), (2, 7, 32), (0, 8, 8), (8, 9, 128), (1, 10, 16), (32, 11, 512), (95, 12, 1088), (159, 0, 2304)])]
def s52 : SF := ⟨12, [], .seq (.ops [
    ⟨(some 3), .box 27 (.tmp 1), none⟩]) (.draw (.q 0 ⟨(some 4), .mv (.tmp 0), none⟩ <|
    .q 1 ⟨(some 5), .fa 1 (.tmp 3), none⟩ <|
    .q 2 ⟨(some 6), .ld (.tmp 5), none⟩ <|
    .q 3 ⟨(some 7), .fa 2 (.tmp 3), none⟩ <|
    .q 4 ⟨(some 8), .ld (.tmp 7), none⟩ <|
    .q 5 ⟨(some 9), .nil (.tmp 4), none⟩ <|
    .q 6 ⟨(some 10), .fa 2 (.tmp 9), none⟩ <|
    .q 7 ⟨(some 11), .ixa 8 1 (.tmp 10) (.tmp 6), none⟩ <|
    .x [] ⟨none, .st 1 (.tmp 11) (.tmp 8), none⟩ <|
    .n))⟩
theorem sl52 : slimF Try.prog h52 Try.f52 = some s52 := by kernel_rfl

/- 53: (*shunter/frame.Frame).move -/
def h53 : List (Nat × ST × List OD) := [(1, .q 0 <| .q 1 <| .q 2 <| .q 3 <| .q 4 <| .q 5 <| .q 6 <| .q 7 <| .q 8 <| .q 9 <| .q 10 <| .q 11 <| .q 12 <| .x 13 <| .n, [(0, 5, 1), (0, 6, 8), (2, 7, 32), (0, 8, 1), (0, 9, 8), (16, 10, 256), (8, 11, 128), (64, 12, 1024), (160, 13, 2560), (256, 14, 4096), (1, 15, 16), (1024, 16, 16384), (3071, 17, 32832), (5119, 0, 73728)])]
def s53 : SF := ⟨17, [], .seq (.ops [
    ⟨(some 3), .box 27 (.tmp 1), none⟩]) (.draw (.q 0 ⟨(some 4), .mv (.tmp 0), none⟩ <|
    .q 1 ⟨(some 5), .fa 1 (.tmp 3), none⟩ <|
    .q 2 ⟨(some 6), .ld (.tmp 5), none⟩ <|
    .q 3 ⟨(some 7), .mv (.tmp 0), none⟩ <|
    .q 4 ⟨(some 8), .fa 2 (.tmp 3), none⟩ <|
    .q 5 ⟨(some 9), .ld (.tmp 8), none⟩ <|
    .q 6 ⟨(some 10), .nil (.tmp 7), none⟩ <|
    .q 7 ⟨(some 11), .fa 2 (.tmp 10), none⟩ <|
    .q 8 ⟨(some 12), .ixa 8 1 (.tmp 11) (.tmp 9), none⟩ <|
    .q 9 ⟨(some 13), .ld (.tmp 12), none⟩ <|
    .q 10 ⟨(some 14), .nil (.tmp 4), none⟩ <|
    .q 11 ⟨(some 15), .fa 2 (.tmp 14), none⟩ <|
    .q 12 ⟨(some 16), .ixa 8 1 (.tmp 15) (.tmp 6), none⟩ <|
    .x [] ⟨none, .st 1 (.tmp 16) (.tmp 13), none⟩ <|
    .n))⟩
theorem sl53 : slimF Try.prog h53 Try.f53 = some s53 := by kernel_rfl

/- 54: (*shunter/frame.Frame).add -/
def h54 : List (Nat × ST × List OD) := [(1, .q 0 <| .q 1 <| .q 2 <| .q 3 <| .q 4 <| .q 5 <| .q 6 <| .q 7 <| .q 8 <| .q 9 <| .q 10 <| .q 11 <| .q 12 <| .q 13 <| .q 14 <| .q 15 <| .q 16 <| .q 17 <| .q 18 <| .q 19 <| .q 20 <| .x 21 <| .n, [(0, 5, 1), (0, 6, 8), (2, 7, 32), (0, 8, 1), (0, 9, 8), (16, 10, 256), (8, 11, 128), (64, 12, 1024), (160, 13, 2560), (256, 14, 4096), (0, 15, 1), (0, 16, 8), (2048, 17, 32768), (1024, 18, 16384), (8192, 19, 131072), (20480, 20, 327680), (32768, 21, 524288), (66048, 22, 1056768), (1, 23, 16), (262144, 24, 4194304), (786431, 25, 8388672), (1310719, 0, 18874368)])]
def s54 : SF := ⟨25, [], .seq (.ops [
    ⟨(some 3), .box 27 (.tmp 1), none⟩]) (.draw (.q 0 ⟨(some 4), .mv (.tmp 0), none⟩ <|
    .q 1 ⟨(some 5), .fa 1 (.tmp 3), none⟩ <|
    .q 2 ⟨(some 6), .ld (.tmp 5), none⟩ <|
    .q 3 ⟨(some 7), .mv (.tmp 0), none⟩ <|
    .q 4 ⟨(some 8), .fa 2 (.tmp 3), none⟩ <|
    .q 5 ⟨(some 9), .ld (.tmp 8), none⟩ <|
    .q 6 ⟨(some 10), .nil (.tmp 7), none⟩ <|
    .q 7 ⟨(some 11), .fa 2 (.tmp 10), none⟩ <|
    .q 8 ⟨(some 12), .ixa 8 1 (.tmp 11) (.tmp 9), none⟩ <|
    .q 9 ⟨(some 13), .ld (.tmp 12), none⟩ <|
    .q 10 ⟨(some 14), .mv (.tmp 0), none⟩ <|
    .q 11 ⟨(some 15), .fa 3 (.tmp 3), none⟩ <|
    .q 12 ⟨(some 16), .ld (.tmp 15), none⟩ <|
    .q 13 ⟨(some 17), .nil (.tmp 14), none⟩ <|
    .q 14 ⟨(some 18), .fa 2 (.tmp 17), none⟩ <|
    .q 15 ⟨(some 19), .ixa 8 1 (.tmp 18) (.tmp 16), none⟩ <|
    .q 16 ⟨(some 20), .ld (.tmp 19), none⟩ <|
    .q 17 ⟨(some 21), .bin .add (.tmp 13) (.tmp 20), none⟩ <|
    .q 18 ⟨(some 22), .nil (.tmp 4), none⟩ <|
    .q 19 ⟨(some 23), .fa 2 (.tmp 22), none⟩ <|
    .q 20 ⟨(some 24), .ixa 8 1 (.tmp 23) (.tmp 6), none⟩ <|
    .x [] ⟨none, .st 1 (.tmp 24) (.tmp 21), none⟩ <|
    .n))⟩
theorem sl54 : slimF Try.prog h54 Try.f54 = some s54 := by kernel_rfl

/- 55: (*shunter/frame.Frame).sub -/
def h55 : List (Nat × ST × List OD) := [(1, .q 0 <| .q 1 <| .q 2 <| .q 3 <| .q 4 <| .q 5 <| .q 6 <| .q 7 <| .q 8 <| .q 9 <| .q 10 <| .q 11 <| .q 12 <| .q 13 <| .q 14 <| .q 15 <| .q 16 <| .q 17 <| .q 18 <| .q 19 <| .q 20 <| .x 21 <| .n, [(0, 5, 1), (0, 6, 8), (2, 7, 32), (0, 8, 1), (0, 9, 8), (16, 10, 256), (8, 11, 128), (64, 12, 1024), (160, 13, 2560), (256, 14, 4096), (0, 15, 1), (0, 16, 8), (2048, 17, 32768), (1024, 18, 16384), (8192, 19, 131072), (20480, 20, 327680), (32768, 21, 524288), (66048, 22, 1056768), (1, 23, 16), (262144, 24, 4194304), (786431, 25, 8388672), (1310719, 0, 18874368)])]
def s55 : SF := ⟨25, [], .seq (.ops [
    ⟨(some 3), .box 27 (.tmp 1), none⟩]) (.draw (.q 0 ⟨(some 4), .mv (.tmp 0), none⟩ <|
    .q 1 ⟨(some 5), .fa 1 (.tmp 3), none⟩ <|
    .q 2 ⟨(some 6), .ld (.tmp 5), none⟩ <|
    .q 3 ⟨(some 7), .mv (.tmp 0), none⟩ <|
    .q 4 ⟨(some 8), .fa 2 (.tmp 3), none⟩ <|
    .q 5 ⟨(some 9), .ld (.tmp 8), none⟩ <|
    .q 6 ⟨(some 10), .nil (.tmp 7), none⟩ <|
    .q 7 ⟨(some 11), .fa 2 (.tmp 10), none⟩ <|
    .q 8 ⟨(some 12), .ixa 8 1 (.tmp 11) (.tmp 9), none⟩ <|
    .q 9 ⟨(some 13), .ld (.tmp 12), none⟩ <|
    .q 10 ⟨(some 14), .mv (.tmp 0), none⟩ <|
    .q 11 ⟨(some 15), .fa 3 (.tmp 3), none⟩ <|
    .q 12 ⟨(some 16), .ld (.tmp 15), none⟩ <|
    .q 13 ⟨(some 17), .nil (.tmp 14), none⟩ <|
    .q 14 ⟨(some 18), .fa 2 (.tmp 17), none⟩ <|
    .q 15 ⟨(some 19), .ixa 8 1 (.tmp 18) (.tmp 16), none⟩ <|
    .q 16 ⟨(some 20), .ld (.tmp 19), none⟩ <|
    .q 17 ⟨(some 21), .bin .sub (.tmp 13) (.tmp 20), none⟩ <|
    .q 18 ⟨(some 22), .nil (.tmp 4), none⟩ <|
    .q 19 ⟨(some 23), .fa 2 (.tmp 22), none⟩ <|
    .q 20 ⟨(some 24), .ixa 8 1 (.tmp 23) (.tmp 6), none⟩ <|
    .x [] ⟨none, .st 1 (.tmp 24) (.tmp 21), none⟩ <|
    .n))⟩
theorem sl55 : slimF Try.prog h55 Try.f55 = some s55 := by kernel_rfl

/- 56: (*shunter/frame.Frame).mul -/
def h56 : List (Nat × ST × List OD) := [(1, .q 0 <| .q 1 <| .q 2 <| .q 3 <| .q 4 <| .q 5 <| .q 6 <| .q 7 <| .q 8 <| .q 9 <| .q 10 <| .q 11 <| .q 12 <| .q 13 <| .q 14 <| .q 15 <| .q 16 <| .q 17 <| .q 18 <| .q 19 <| .q 20 <| .x 21 <| .n, [(0, 5, 1), (0, 6, 8), (2, 7, 32), (0, 8, 1), (0, 9, 8), (16, 10, 256), (8, 11, 128), (64, 12, 1024), (160, 13, 2560), (256, 14, 4096), (0, 15, 1), (0, 16, 8), (2048, 17, 32768), (1024, 18, 16384), (8192, 19, 131072), (20480, 20, 327680), (32768, 21, 524288), (66048, 22, 1056768), (1, 23, 16), (262144, 24, 4194304), (786431, 25, 8388672), (1310719, 0, 18874368)])]
def s56 : SF := ⟨25, [], .seq (.ops [
    ⟨(some 3), .box 27 (.tmp 1), none⟩]) (.draw (.q 0 ⟨(some 4), .mv (.tmp 0), none⟩ <|
    .q 1 ⟨(some 5), .fa 1 (.tmp 3), none⟩ <|
    .q 2 ⟨(some 6), .ld (.tmp 5), none⟩ <|
    .q 3 ⟨(some 7), .mv (.tmp 0), none⟩ <|
    .q 4 ⟨(some 8), .fa 2 (.tmp 3), none⟩ <|
    .q 5 ⟨(some 9), .ld (.tmp 8), none⟩ <|
    .q 6 ⟨(some 10), .nil (.tmp 7), none⟩ <|
    .q 7 ⟨(some 11), .fa 2 (.tmp 10), none⟩ <|
    .q 8 ⟨(some 12), .ixa 8 1 (.tmp 11) (.tmp 9), none⟩ <|
    .q 9 ⟨(some 13), .ld (.tmp 12), none⟩ <|
    .q 10 ⟨(some 14), .mv (.tmp 0), none⟩ <|
    .q 11 ⟨(some 15), .fa 3 (.tmp 3), none⟩ <|
    .q 12 ⟨(some 16), .ld (.tmp 15), none⟩ <|
    .q 13 ⟨(some 17), .nil (.tmp 14), none⟩ <|
    .q 14 ⟨(some 18), .fa 2 (.tmp 17), none⟩ <|
    .q 15 ⟨(some 19), .ixa 8 1 (.tmp 18) (.tmp 16), none⟩ <|
    .q 16 ⟨(some 20), .ld (.tmp 19), none⟩ <|
    .q 17 ⟨(some 21), .bin .mul (.tmp 13) (.tmp 20), none⟩ <|
    .q 18 ⟨(some 22), .nil (.tmp 4), none⟩ <|
    .q 19 ⟨(some 23), .fa 2 (.tmp 22), none⟩ <|
    .q 20 ⟨(some 24), .ixa 8 1 (.tmp 23) (.tmp 6), none⟩ <|
    .x [] ⟨none, .st 1 (.tmp 24) (.tmp 21), none⟩ <|
    .n))⟩
theorem sl56 : slimF Try.prog h56 Try.f56 = some s56 := by kernel_rfl

/- 57: (*shunter/frame.Frame).less -/
def h57 : List (Nat × ST × List OD) := [(1, .q 0 <| .q 1 <| .q 2 <| .q 3 <| .q 4 <| .q 5 <| .q 6 <| .q 7 <| .q 8 <| .q 9 <| .q 10 <| .q 11 <| .q 12 <| .q 13 <| .q 14 <| .q 15 <| .n, [(0, 6, 1), (0, 7, 8), (2, 8, 64), (1, 9, 32), (8, 10, 256), (20, 11, 640), (32, 12, 1024), (0, 13, 1), (0, 14, 8), (256, 15, 8192), (128, 16, 4096), (1024, 17, 32768), (2560, 18, 81920), (4096, 19, 131072), (8256, 20, 264192), (32767, 5, 524288)]), (2, .q 0 <| .q 1 <| .q 2 <| .q 3 <| .q 4 <| .q 5 <| .x 6 <| .n, [(0, 21, 1), (0, 22, 8), (2, 23, 2097152), (1, 24, 1048576), (8, 25, 8388608), (23, 26, 20971520), (39, 0, 33554432)]), (4, .q 0 <| .q 1 <| .q 2 <| .q 3 <| .q 4 <| .q 5 <| .x 6 <| .n, [(0, 28, 1), (0, 29, 8), (2, 30, 268435456), (1, 31, 134217728), (8, 32, 1073741824), (23, 33, 2684354560), (39, 0, 4294967296)])]
def s57 : SF := ⟨33, [], .seq (.ops [
    ⟨(some 3), .box 27 (.tmp 1), none⟩]) (.seq (.draw (.q 0 ⟨(some 5), .mv (.tmp 0), none⟩ <|
    .q 1 ⟨(some 6), .fa 2 (.tmp 3), none⟩ <|
    .q 2 ⟨(some 7), .ld (.tmp 6), none⟩ <|
    .q 3 ⟨(some 8), .nil (.tmp 5), none⟩ <|
    .q 4 ⟨(some 9), .fa 2 (.tmp 8), none⟩ <|
    .q 5 ⟨(some 10), .ixa 8 1 (.tmp 9) (.tmp 7), none⟩ <|
    .q 6 ⟨(some 11), .ld (.tmp 10), none⟩ <|
    .q 7 ⟨(some 12), .mv (.tmp 0), none⟩ <|
    .q 8 ⟨(some 13), .fa 3 (.tmp 3), none⟩ <|
    .q 9 ⟨(some 14), .ld (.tmp 13), none⟩ <|
    .q 10 ⟨(some 15), .nil (.tmp 12), none⟩ <|
    .q 11 ⟨(some 16), .fa 2 (.tmp 15), none⟩ <|
    .q 12 ⟨(some 17), .ixa 8 1 (.tmp 16) (.tmp 14), none⟩ <|
    .q 13 ⟨(some 18), .ld (.tmp 17), none⟩ <|
    .q 14 ⟨(some 19), .bin .lss (.tmp 11) (.tmp 18), none⟩ <|
    .q 15 ⟨(some 4), .mv (.tmp 19), none⟩ <|
    .n)) (.seq (.draw (.q 0 ⟨(some 20), .mv (.tmp 0), none⟩ <|
    .q 1 ⟨(some 21), .fa 1 (.tmp 3), none⟩ <|
    .q 2 ⟨(some 22), .ld (.tmp 21), none⟩ <|
    .q 3 ⟨(some 23), .nil (.tmp 20), none⟩ <|
    .q 4 ⟨(some 24), .fa 2 (.tmp 23), none⟩ <|
    .q 5 ⟨(some 25), .ixa 8 1 (.tmp 24) (.tmp 22), none⟩ <|
    .x [] ⟨none, .st 1 (.tmp 25) (.const (.int .i64 0)), none⟩ <|
    .n)) (.seq (.ops [
    ⟨(some 26), .mv (.tmp 4), none⟩]) (.cond (.tmp 26) (.draw (.q 0 ⟨(some 27), .mv (.tmp 0), none⟩ <|
    .q 1 ⟨(some 28), .fa 1 (.tmp 3), none⟩ <|
    .q 2 ⟨(some 29), .ld (.tmp 28), none⟩ <|
    .q 3 ⟨(some 30), .nil (.tmp 27), none⟩ <|
    .q 4 ⟨(some 31), .fa 2 (.tmp 30), none⟩ <|
    .q 5 ⟨(some 32), .ixa 8 1 (.tmp 31) (.tmp 29), none⟩ <|
    .x [] ⟨none, .st 1 (.tmp 32) (.const (.int .i64 1)), none⟩ <|
    .n)) (.skip)))))⟩
theorem sl57 : slimF Try.prog h57 Try.f57 = some s57 := by kernel_rfl

/- 58: (*shunter/frame.Frame).jump -/
def h58 : List (Nat × ST × List OD) := []
def s58 : SF := ⟨9, [], .seq (.ops [
    ⟨(some 3), .box 27 (.tmp 1), none⟩]) (.ops [
    ⟨(some 4), .mv (.tmp 0), none⟩,
    ⟨(some 5), .fa 1 (.tmp 3), none⟩,
    ⟨(some 6), .ld (.tmp 5), none⟩,
    ⟨(some 7), .nil (.tmp 4), none⟩,
    ⟨(some 8), .fa 1 (.tmp 7), none⟩,
    ⟨none, .st 1 (.tmp 8) (.tmp 6), none⟩])⟩
theorem sl58 : slimF Try.prog h58 Try.f58 = some s58 := by kernel_rfl

/- 59: (*shunter/frame.Frame).branch -/
def h59 : List (Nat × ST × List OD) := [(1, .q 0 <| .q 1 <| .q 2 <| .q 3 <| .q 4 <| .q 5 <| .q 6 <| .q 7 <| .n, [(0, 5, 1), (0, 6, 8), (2, 7, 32), (1, 8, 16), (8, 9, 128), (20, 10, 320), (32, 11, 512), (64, 12, 1024)])]
def s59 : SF := ⟨17, [], .seq (.ops [
    ⟨(some 3), .box 27 (.tmp 1), none⟩]) (.seq (.draw (.q 0 ⟨(some 4), .mv (.tmp 0), none⟩ <|
    .q 1 ⟨(some 5), .fa 1 (.tmp 3), none⟩ <|
    .q 2 ⟨(some 6), .ld (.tmp 5), none⟩ <|
    .q 3 ⟨(some 7), .nil (.tmp 4), none⟩ <|
    .q 4 ⟨(some 8), .fa 2 (.tmp 7), none⟩ <|
    .q 5 ⟨(some 9), .ixa 8 1 (.tmp 8) (.tmp 6), none⟩ <|
    .q 6 ⟨(some 10), .ld (.tmp 9), none⟩ <|
    .q 7 ⟨(some 11), .bin .neq (.tmp 10) (.const (.int .i64 0)), none⟩ <|
    .n)) (.cond (.tmp 11) (.ops [
    ⟨(some 12), .mv (.tmp 0), none⟩,
    ⟨(some 13), .fa 2 (.tmp 3), none⟩,
    ⟨(some 14), .ld (.tmp 13), none⟩,
    ⟨(some 15), .nil (.tmp 12), none⟩,
    ⟨(some 16), .fa 1 (.tmp 15), none⟩,
    ⟨none, .st 1 (.tmp 16) (.tmp 14), none⟩]) (.skip)))⟩
theorem sl59 : slimF Try.prog h59 Try.f59 = some s59 := by kernel_rfl

end Go.Proofs.Ytojbbajmldbffaa
