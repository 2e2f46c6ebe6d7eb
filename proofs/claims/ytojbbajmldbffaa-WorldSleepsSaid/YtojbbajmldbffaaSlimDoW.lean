/- Slim code of 2 functions, each held against the program by the kernel. -/
import Derived.Test.YtojbbajmldbffaaProg
import Derived.Test.YtojbbajmldbffaaDefer
import Derived.KernelRfl
set_option maxRecDepth 100000
namespace Go.Proofs.Ytojbbajmldbffaa
open Go.Shu

/- 17: (*shunter/world.World).do -/
def h17 : List (Nat × ST × List OD) := [(3, .q 0 <| .q 1 <| .q 2 <| .q 3 <| .q 4 <| .q 5 <| .q 6 <| .q 7 <| .q 8 <| .q 9 <| .q 10 <| .q 11 <| .n, [(0, 21, 1), (1, 22, 1048576), (2, 23, 2097152), (4, 24, 4194304), (8, 25, 8388608), (0, 26, 32), (32, 27, 33554432), (64, 28, 67108864), (128, 29, 134217728), (272, 30, 285212672), (512, 31, 536870912), (2047, 7, 1073741824)]), (8, .q 1 <| .q 2 <| .q 4 <| .q 5 <| .q 6 <| .q 7 <| .x 0 <| .x 3 <| .x 8 <| .n, [(0, 54, 0), (0, 55, 128), (2, 56, 18014398509481984), (5, 57, 45035996273704960), (0, 58, 1), (0, 59, 2), (0, 60, 32), (0, 61, 128), (249, 62, 2233785415175766016)])]
def s17 : SFD := ⟨92, [.t 4], 4, [⟨(some 4), .mv (.const (.bool false)), none⟩], ⟨(some 8), .mv (.tmp 0), none⟩, (.func 21), [(.tmp 8)], .seq (.ops [
    ⟨(some 9), .mv (.tmp 0), none⟩,
    ⟨(some 10), .nil (.tmp 9), none⟩,
    ⟨(some 11), .fa 4 (.tmp 10), none⟩,
    ⟨(some 12), .ld (.tmp 11), none⟩,
    ⟨(some 13), .mv (.tmp 1), none⟩,
    ⟨(some 14), .ix 1 (.tmp 12) (.tmp 13), none⟩,
    ⟨(some 15), .ld (.tmp 14), none⟩,
    ⟨(some 16), .nil (.tmp 15), none⟩,
    ⟨(some 17), .fa 1 (.tmp 16), none⟩,
    ⟨(some 18), .ld (.tmp 17), none⟩,
    ⟨(some 19), .call 22 [(.tmp 18)], none⟩,
    ⟨(some 5), .mv (.tmp 19), none⟩]) (.seq (.draw (.q 0 ⟨(some 20), .mv (.tmp 0), none⟩ <|
    .q 1 ⟨(some 21), .nil (.tmp 20), none⟩ <|
    .q 2 ⟨(some 22), .fa 0 (.tmp 21), none⟩ <|
    .q 3 ⟨(some 23), .fa 0 (.tmp 22), none⟩ <|
    .q 4 ⟨(some 24), .ld (.tmp 23), none⟩ <|
    .q 5 ⟨(some 25), .mv (.tmp 5), none⟩ <|
    .q 6 ⟨(some 26), .nil (.tmp 25), none⟩ <|
    .q 7 ⟨(some 27), .fa 0 (.tmp 26), none⟩ <|
    .q 8 ⟨(some 28), .ld (.tmp 27), none⟩ <|
    .q 9 ⟨(some 29), .ix 1 (.tmp 24) (.tmp 28), none⟩ <|
    .q 10 ⟨(some 30), .ld (.tmp 29), none⟩ <|
    .q 11 ⟨(some 6), .mv (.tmp 30), none⟩ <|
    .n)) (.seq (.seq (.ops [
    ⟨(some 31), .mv (.tmp 5), none⟩,
    ⟨(some 32), .nil (.tmp 31), none⟩,
    ⟨(some 33), .fa 1 (.tmp 32), none⟩,
    ⟨(some 34), .ld (.tmp 33), none⟩,
    ⟨(some 35), .mv (.tmp 6), none⟩,
    ⟨(some 36), .len false (.tmp 35), none⟩,
    ⟨(some 37), .bin .geq (.tmp 34) (.tmp 36), none⟩]) (.cond (.tmp 37) (.ops [
    ⟨(some 38), .mi 80 (.const (.int .i64 (-7))), none⟩,
    ⟨none, .pan (.tmp 38), none⟩]) (.skip))) (.seq (.ops [
    ⟨(some 39), .mv (.tmp 6), none⟩,
    ⟨(some 40), .mv (.tmp 5), none⟩,
    ⟨(some 41), .nil (.tmp 40), none⟩,
    ⟨(some 42), .fa 1 (.tmp 41), none⟩,
    ⟨(some 43), .ld (.tmp 42), none⟩,
    ⟨(some 44), .ix 4 (.tmp 39) (.tmp 43), none⟩,
    ⟨(some 45), .lda 4 (.tmp 44), none⟩,
    ⟨(some 7), .al 27 [(.int .i64 0), (.int .i64 0), (.int .i64 0), (.int .i64 0)], none⟩,
    ⟨none, .st 4 (.tmp 7) (.tmp 45), none⟩]) (.seq (.block 0 (.seq (.ops [
    ⟨(some 63), .mv (.tmp 5), none⟩,
    ⟨(some 64), .lda 4 (.tmp 7), none⟩,
    ⟨(some 65), .call 23 [(.tmp 63), (.tmp 64)], none⟩,
    ⟨(some 62), .mv (.tmp 65), none⟩]) (.cond (.tmp 62) (.skip) (.seq (.ops [
    ⟨(some 67), .fa 0 (.tmp 7), none⟩,
    ⟨(some 68), .ld (.tmp 67), none⟩,
    ⟨(some 69), .bin .eql (.tmp 68) (.const (.int .i64 16)), none⟩,
    ⟨(some 66), .mv (.tmp 69), none⟩]) (.cond (.tmp 66) (.ops [
    ⟨(some 70), .mv (.tmp 0), none⟩,
    ⟨(some 71), .mv (.tmp 1), none⟩,
    ⟨(some 72), .mv (.tmp 5), none⟩,
    ⟨(some 73), .lda 4 (.tmp 7), none⟩,
    ⟨(some 74), .call 24 [(.tmp 70), (.tmp 71), (.tmp 72), (.tmp 73)], none⟩]) (.seq (.ops [
    ⟨(some 76), .fa 0 (.tmp 7), none⟩,
    ⟨(some 77), .ld (.tmp 76), none⟩,
    ⟨(some 78), .bin .eql (.tmp 77) (.const (.int .i64 21)), none⟩,
    ⟨(some 75), .mv (.tmp 78), none⟩]) (.cond (.tmp 75) (.ops [
    ⟨(some 79), .mv (.tmp 0), none⟩,
    ⟨(some 80), .mv (.tmp 1), none⟩,
    ⟨(some 81), .mv (.tmp 5), none⟩,
    ⟨(some 82), .lda 4 (.tmp 7), none⟩,
    ⟨(some 83), .call 25 [(.tmp 79), (.tmp 80), (.tmp 81), (.tmp 82)], none⟩]) (.seq (.ops [
    ⟨(some 46), .mv (.tmp 5), none⟩,
    ⟨(some 47), .nil (.tmp 46), none⟩,
    ⟨(some 48), .fa 1 (.tmp 47), none⟩,
    ⟨(some 49), .ld (.tmp 48), none⟩,
    ⟨(some 50), .bin .add (.tmp 49) (.const (.int .i64 1)), none⟩,
    ⟨(some 51), .nil (.tmp 46), none⟩,
    ⟨(some 52), .fa 1 (.tmp 51), none⟩,
    ⟨none, .st 1 (.tmp 52) (.tmp 50), none⟩]) (.draw (.q 1 ⟨(some 54), .fa 0 (.tmp 7), none⟩ <|
    .q 2 ⟨(some 55), .ld (.tmp 54), none⟩ <|
    .q 4 ⟨(some 57), .mv (.tmp 0), none⟩ <|
    .q 5 ⟨(some 58), .mv (.tmp 1), none⟩ <|
    .q 6 ⟨(some 59), .mv (.tmp 5), none⟩ <|
    .q 7 ⟨(some 60), .lda 4 (.tmp 7), none⟩ <|
    .x [7, 2] ⟨(some 53), .call 26 [], none⟩ <|
    .x [7] ⟨(some 56), .raw (.lookup 85 (.tmp 53) (.tmp 55) false) 84, none⟩ <|
    .x [] ⟨(some 61), .callv (.tmp 56) [(.tmp 57), (.tmp 58), (.tmp 59), (.tmp 60)], none⟩ <|
    .n)))))))))) (.seq (.ops [
    ⟨(some 84), .fa 0 (.tmp 7), none⟩,
    ⟨(some 85), .ld (.tmp 84), none⟩,
    ⟨(some 86), .bin .eql (.tmp 85) (.const (.int .i64 12)), none⟩,
    ⟨(some 87), .mv (.tmp 86), none⟩,
    ⟨(some 88), .fa 0 (.tmp 7), (some (87, false))⟩,
    ⟨(some 89), .ld (.tmp 88), (some (87, false))⟩,
    ⟨(some 90), .bin .eql (.tmp 89) (.const (.int .i64 17)), (some (87, false))⟩,
    ⟨(some 91), .pick (.tmp 87) (.const (.bool true)) (.tmp 90), none⟩,
    ⟨(some 4), .mv (.tmp 91), none⟩]) (.ret))))))⟩
theorem sl17 : slimFD Try.prog h17 Try.f17 = some s17 := by kernel_rfl

/- 21: (*shunter/world.World).caught -/
def h21 : List (Nat × ST × List OD) := []
def s21 : SFR := ⟨18, 5, [], .block 0 (.seq (.ops [
    ⟨(some 7), .raw (.binOp .eql 20 (.tmp 5) (.const .nilIface) 20) 4, none⟩]) (.cond (.tmp 7) (.ops [
    ⟨(some 2), .mv (.tmp 5), none⟩]) (.seq (.ops [
    ⟨(some 8), .raw (.typeAssert (.tmp 5) 20 80 true) 0, none⟩,
    ⟨(some 9), .ext (.tmp 8) 1, none⟩,
    ⟨(some 10), .ext (.tmp 8) 0, none⟩]) (.cond (.tmp 9) (.seq (.ops [
    ⟨(some 3), .mv (.tmp 10), none⟩]) (.ops [
    ⟨(some 11), .mv (.tmp 0), none⟩,
    ⟨(some 12), .mv (.tmp 0), none⟩,
    ⟨(some 13), .mv (.tmp 3), none⟩,
    ⟨(some 14), .nil (.tmp 11), none⟩,
    ⟨(some 15), .fa 11 (.tmp 14), none⟩,
    ⟨none, .st 1 (.tmp 15) (.const (.int .i64 2)), none⟩,
    ⟨(some 16), .nil (.tmp 12), none⟩,
    ⟨(some 17), .fa 12 (.tmp 16), none⟩,
    ⟨none, .st 1 (.tmp 17) (.tmp 13), none⟩])) (.seq (.ops [
    ⟨(some 4), .mv (.tmp 5), none⟩]) (.ops [
    ⟨(some 6), .mv (.tmp 4), none⟩,
    ⟨none, .pan (.tmp 6), none⟩]))))))⟩
theorem sl21 : slimFR Try.prog h21 Try.f21 = some s21 := by kernel_rfl

end Go.Proofs.Ytojbbajmldbffaa
