/- Slim code of 4 functions, each held against the program by the kernel. -/
import Derived.Test.YtojbbajmldbffaaProg
import Derived.Test.YtojbbajmldbffaaDefer
import Derived.KernelRfl
set_option maxRecDepth 100000
namespace Go.Proofs.Ytojbbajmldbffaa
open Go.Shu

/- 3: shunter/shunterlaw16.WorldSleeps -/
def h3 : List (Nat × ST × List OD) := []
def s3 : SF := ⟨154, [.t 2], .seq (.ops [
    ⟨(some 2), .mv (.const (.bool false)), none⟩]) (.seq (.seq (.ops [
    ⟨(some 17), .call 4 [], none⟩,
    ⟨(some 18), .un .not (.tmp 17), none⟩]) (.cond (.tmp 18) (.seq (.ops [
    ⟨(some 2), .mv (.const (.bool false)), none⟩]) (.ret)) (.skip))) (.seq (.ops [
    ⟨(some 19), .mv (.tmp 0), none⟩,
    ⟨(some 20), .len false (.tmp 19), none⟩,
    ⟨(some 21), .min (.tmp 20) (.const (.int .i64 20)), none⟩,
    ⟨(some 3), .mv (.tmp 21), none⟩]) (.seq (.ops [
    ⟨(some 22), .bs 27 0 [] [], none⟩,
    ⟨(some 4), .mv (.tmp 22), none⟩]) (.seq (.seq (.ops [
    ⟨(some 23), .mv (.tmp 3), none⟩,
    ⟨(some 24), .mv (.const (.int .i64 0)), none⟩]) (.block 0 (.loop (.seq (.ops [
    ⟨(some 25), .bin .lss (.tmp 24) (.tmp 23), none⟩]) (.seq (.cond (.tmp 25) (.skip) (.exit 0)) (.seq (.block 1 (.seq (.ops [
    ⟨(some 26), .mv (.tmp 24), none⟩,
    ⟨(some 5), .mv (.tmp 26), none⟩]) (.ops [
    ⟨(some 27), .mv (.tmp 4), none⟩,
    ⟨(some 28), .mv (.tmp 0), none⟩,
    ⟨(some 29), .mv (.tmp 5), none⟩,
    ⟨(some 30), .ix 1 (.tmp 28) (.tmp 29), none⟩,
    ⟨(some 31), .ld (.tmp 30), none⟩,
    ⟨(some 32), .bin .and (.tmp 31) (.const (.int .i64 255)), none⟩,
    ⟨(some 33), .bin .rem (.tmp 32) (.const (.int .i64 30)), none⟩,
    ⟨(some 34), .bin .add (.const (.int .i64 1)) (.tmp 33), none⟩,
    ⟨(some 35), .mv (.tmp 5), none⟩,
    ⟨(some 36), .bin .mul (.const (.int .i64 1000)) (.tmp 35), none⟩,
    ⟨(some 37), .bin .add (.tmp 34) (.tmp 36), none⟩,
    ⟨(some 38), .bd [(.int .i64 0), (.int .i64 0), (.int .i64 0), (.int .i64 0)] [(0, 1, (.const (.int .i64 1))), (1, 1, (.const (.int .i64 1))), (2, 1, (.tmp 37))], none⟩,
    ⟨(some 39), .bd [(.int .i64 0), (.int .i64 0), (.int .i64 0), (.int .i64 0)] [(0, 1, (.const (.int .i64 11))), (1, 1, (.const (.int .i64 1))), (2, 1, (.const (.int .i64 1))), (3, 1, (.const (.int .i64 2)))], none⟩,
    ⟨(some 40), .bs 27 2 [(.int .i64 0), (.int .i64 0), (.int .i64 0), (.int .i64 0), (.int .i64 0), (.int .i64 0), (.int .i64 0), (.int .i64 0)] [(0, 4, (.tmp 38)), (4, 4, (.tmp 39))], none⟩,
    ⟨(some 41), .app 27 4 32 #[(.int .i64 0), (.int .i64 0), (.int .i64 0), (.int .i64 0)] (.tmp 27) (.tmp 40), none⟩,
    ⟨(some 4), .mv (.tmp 41), none⟩]))) (.ops [
    ⟨(some 42), .bin .add (.tmp 24) (.const (.int .i64 1)), none⟩,
    ⟨(some 24), .mv (.tmp 42), none⟩]))))))) (.seq (.ops [
    ⟨(some 43), .mv (.tmp 4), none⟩,
    ⟨(some 44), .bd [(.int .i64 0), (.int .i64 0), (.int .i64 0), (.int .i64 0)] [(0, 1, (.const (.int .i64 12)))], none⟩,
    ⟨(some 45), .mv (.tmp 4), none⟩,
    ⟨(some 46), .len false (.tmp 45), none⟩,
    ⟨(some 47), .bd [(.int .i64 0), (.int .i64 0), (.int .i64 0), (.int .i64 0)] [(0, 1, (.const (.int .i64 7))), (1, 1, (.tmp 46))], none⟩,
    ⟨(some 48), .bs 27 2 [(.int .i64 0), (.int .i64 0), (.int .i64 0), (.int .i64 0), (.int .i64 0), (.int .i64 0), (.int .i64 0), (.int .i64 0)] [(0, 4, (.tmp 44)), (4, 4, (.tmp 47))], none⟩,
    ⟨(some 49), .app 27 4 32 #[(.int .i64 0), (.int .i64 0), (.int .i64 0), (.int .i64 0)] (.tmp 43) (.tmp 48), none⟩,
    ⟨(some 4), .mv (.tmp 49), none⟩]) (.seq (.ops [
    ⟨(some 50), .bd [(.int .i64 0), (.int .i64 0), (.int .i64 0), (.int .i64 0)] [(0, 1, (.const (.int .i64 1))), (1, 1, (.const (.int .i64 1))), (2, 1, (.const (.int .i64 1000)))], none⟩,
    ⟨(some 51), .bd [(.int .i64 0), (.int .i64 0), (.int .i64 0), (.int .i64 0)] [(0, 1, (.const (.int .i64 6))), (1, 1, (.const (.int .i64 2))), (2, 1, (.const (.int .i64 0))), (3, 1, (.const (.int .i64 1)))], none⟩,
    ⟨(some 52), .bd [(.int .i64 0), (.int .i64 0), (.int .i64 0), (.int .i64 0)] [(0, 1, (.const (.int .i64 8))), (1, 1, (.const (.int .i64 2))), (2, 1, (.const (.int .i64 7)))], none⟩,
    ⟨(some 53), .bd [(.int .i64 0), (.int .i64 0), (.int .i64 0), (.int .i64 0)] [(0, 1, (.const (.int .i64 4))), (1, 1, (.const (.int .i64 0))), (2, 1, (.const (.int .i64 0))), (3, 1, (.const (.int .i64 1)))], none⟩,
    ⟨(some 54), .bd [(.int .i64 0), (.int .i64 0), (.int .i64 0), (.int .i64 0)] [(0, 1, (.const (.int .i64 1))), (1, 1, (.const (.int .i64 4))), (2, 1, (.const (.int .i64 1)))], none⟩,
    ⟨(some 55), .bd [(.int .i64 0), (.int .i64 0), (.int .i64 0), (.int .i64 0)] [(0, 1, (.const (.int .i64 3))), (1, 1, (.const (.int .i64 3))), (2, 1, (.const (.int .i64 3))), (3, 1, (.const (.int .i64 4)))], none⟩,
    ⟨(some 56), .bd [(.int .i64 0), (.int .i64 0), (.int .i64 0), (.int .i64 0)] [(0, 1, (.const (.int .i64 7))), (1, 1, (.const (.int .i64 1)))], none⟩,
    ⟨(some 57), .bd [(.int .i64 0), (.int .i64 0), (.int .i64 0), (.int .i64 0)] [(0, 1, (.const (.int .i64 17))), (1, 1, (.const (.int .i64 0)))], none⟩,
    ⟨(some 58), .bd [(.int .i64 0), (.int .i64 0), (.int .i64 0), (.int .i64 0)] [(0, 1, (.const (.int .i64 20))), (1, 1, (.const (.int .i64 3)))], none⟩,
    ⟨(some 59), .bd [(.int .i64 0), (.int .i64 0), (.int .i64 0), (.int .i64 0)] [(0, 1, (.const (.int .i64 10)))], none⟩,
    ⟨(some 60), .bs 27 10 [(.int .i64 0), (.int .i64 0), (.int .i64 0), (.int .i64 0), (.int .i64 0), (.int .i64 0), (.int .i64 0), (.int .i64 0), (.int .i64 0), (.int .i64 0), (.int .i64 0), (.int .i64 0), (.int .i64 0), (.int .i64 0), (.int .i64 0), (.int .i64 0), (.int .i64 0), (.int .i64 0), (.int .i64 0), (.int .i64 0), (.int .i64 0), (.int .i64 0), (.int .i64 0), (.int .i64 0), (.int .i64 0), (.int .i64 0), (.int .i64 0), (.int .i64 0), (.int .i64 0), (.int .i64 0), (.int .i64 0), (.int .i64 0), (.int .i64 0), (.int .i64 0), (.int .i64 0), (.int .i64 0), (.int .i64 0), (.int .i64 0), (.int .i64 0), (.int .i64 0)] [(0, 4, (.tmp 50)), (4, 4, (.tmp 51)), (8, 4, (.tmp 52)), (12, 4, (.tmp 53)), (16, 4, (.tmp 54)), (20, 4, (.tmp 55)), (24, 4, (.tmp 56)), (28, 4, (.tmp 57)), (32, 4, (.tmp 58)), (36, 4, (.tmp 59))], none⟩,
    ⟨(some 6), .mv (.tmp 60), none⟩]) (.seq (.ops [
    ⟨(some 61), .mv (.tmp 4), none⟩,
    ⟨(some 62), .mv (.tmp 6), none⟩,
    ⟨(some 63), .bs 24 2 [(.slice none 0 0), (.slice none 0 0)] [(0, 1, (.tmp 61)), (1, 1, (.tmp 62))], none⟩,
    ⟨(some 64), .bd [(.slice none 0 0), (.slice none 0 0), (.int .i64 0), (.slice none 0 0)] [(0, 1, (.tmp 63))], none⟩,
    ⟨(some 65), .call 5 [(.tmp 64)], none⟩,
    ⟨(some 7), .mv (.tmp 65), none⟩]) (.seq (.ops [
    ⟨(some 8), .mv (.func 6), none⟩]) (.seq (.seq (.ops [
    ⟨(some 66), .mv (.tmp 3), none⟩,
    ⟨(some 67), .bin .mul (.const (.int .i64 2)) (.tmp 66), none⟩,
    ⟨(some 68), .mv (.const (.int .i64 0)), none⟩]) (.block 2 (.loop (.seq (.ops [
    ⟨(some 69), .bin .lss (.tmp 68) (.tmp 67), none⟩]) (.seq (.cond (.tmp 69) (.skip) (.exit 2)) (.seq (.block 3 (.ops [
    ⟨(some 70), .mv (.tmp 7), none⟩,
    ⟨(some 71), .mv (.tmp 8), none⟩,
    ⟨(some 72), .call 7 [(.tmp 70), (.const (.int .i64 0)), (.tmp 71)], none⟩])) (.ops [
    ⟨(some 73), .bin .add (.tmp 68) (.const (.int .i64 1)), none⟩,
    ⟨(some 68), .mv (.tmp 73), none⟩]))))))) (.seq (.seq (.ops [
    ⟨(some 9), .mv (.const (.int .i64 1)), none⟩]) (.block 4 (.loop (.seq (.seq (.ops [
    ⟨(some 74), .mv (.tmp 9), none⟩,
    ⟨(some 75), .mv (.tmp 3), none⟩,
    ⟨(some 76), .bin .leq (.tmp 74) (.tmp 75), none⟩]) (.cond (.tmp 76) (.skip) (.exit 4))) (.seq (.block 5 (.seq (.ops [
    ⟨(some 79), .mv (.const (.int .i64 0)), none⟩]) (.block 6 (.loop (.seq (.ops [
    ⟨(some 80), .bin .lss (.tmp 79) (.const (.int .i64 300)), none⟩]) (.seq (.cond (.tmp 80) (.skip) (.exit 6)) (.seq (.block 7 (.ops [
    ⟨(some 81), .mv (.tmp 7), none⟩,
    ⟨(some 82), .mv (.tmp 9), none⟩,
    ⟨(some 83), .mv (.tmp 8), none⟩,
    ⟨(some 84), .call 7 [(.tmp 81), (.tmp 82), (.tmp 83)], none⟩])) (.ops [
    ⟨(some 85), .bin .add (.tmp 79) (.const (.int .i64 1)), none⟩,
    ⟨(some 79), .mv (.tmp 85), none⟩])))))))) (.ops [
    ⟨(some 77), .mv (.tmp 9), none⟩,
    ⟨(some 78), .bin .add (.tmp 77) (.const (.int .i64 1)), none⟩,
    ⟨(some 9), .mv (.tmp 78), none⟩])))))) (.seq (.seq (.ops [
    ⟨(some 86), .mv (.const (.int .i64 0)), none⟩]) (.block 8 (.loop (.seq (.ops [
    ⟨(some 87), .bin .lss (.tmp 86) (.const (.int .i64 31)), none⟩]) (.seq (.cond (.tmp 87) (.skip) (.exit 8)) (.seq (.block 9 (.seq (.ops [
    ⟨(some 88), .mv (.tmp 7), none⟩,
    ⟨(some 89), .call 8 [(.tmp 88)], none⟩,
    ⟨(some 90), .len false (.tmp 89), none⟩,
    ⟨(some 91), .mv (.const (.int .i64 0)), none⟩]) (.block 10 (.loop (.seq (.ops [
    ⟨(some 92), .bin .lss (.tmp 91) (.tmp 90), none⟩]) (.seq (.cond (.tmp 92) (.skip) (.exit 10)) (.seq (.block 11 (.seq (.ops [
    ⟨(some 93), .ix 1 (.tmp 89) (.tmp 91), none⟩,
    ⟨(some 94), .ld (.tmp 93), none⟩,
    ⟨(some 11), .mv (.tmp 94), none⟩]) (.seq (.ops [
    ⟨(some 95), .mv (.tmp 7), none⟩,
    ⟨(some 96), .mv (.tmp 11), none⟩,
    ⟨(some 97), .mv (.tmp 8), none⟩,
    ⟨(some 98), .call 7 [(.tmp 95), (.tmp 96), (.tmp 97)], none⟩]) (.ops [
    ⟨(some 99), .mv (.tmp 7), none⟩,
    ⟨(some 100), .mv (.tmp 11), none⟩,
    ⟨(some 101), .mv (.tmp 8), none⟩,
    ⟨(some 102), .call 7 [(.tmp 99), (.tmp 100), (.tmp 101)], none⟩])))) (.ops [
    ⟨(some 103), .bin .add (.tmp 91) (.const (.int .i64 1)), none⟩,
    ⟨(some 91), .mv (.tmp 103), none⟩])))))))) (.ops [
    ⟨(some 104), .bin .add (.tmp 86) (.const (.int .i64 1)), none⟩,
    ⟨(some 86), .mv (.tmp 104), none⟩]))))))) (.seq (.ops [
    ⟨(some 105), .mv (.tmp 7), none⟩,
    ⟨(some 106), .call 9 [(.tmp 105)], none⟩,
    ⟨(some 12), .mv (.tmp 106), none⟩]) (.seq (.ops [
    ⟨(some 13), .mv (.const (.int .i64 (-1))), none⟩]) (.seq (.seq (.ops [
    ⟨(some 107), .mv (.tmp 12), none⟩,
    ⟨(some 108), .len false (.tmp 107), none⟩,
    ⟨(some 109), .mv (.const (.int .i64 0)), none⟩]) (.block 12 (.loop (.seq (.ops [
    ⟨(some 110), .bin .lss (.tmp 109) (.tmp 108), none⟩]) (.seq (.cond (.tmp 110) (.skip) (.exit 12)) (.seq (.block 13 (.seq (.ops [
    ⟨(some 111), .mv (.tmp 109), none⟩,
    ⟨(some 112), .ix 1 (.tmp 107) (.tmp 109), none⟩,
    ⟨(some 113), .ld (.tmp 112), none⟩,
    ⟨(some 14), .mv (.tmp 111), none⟩,
    ⟨(some 15), .mv (.tmp 113), none⟩]) (.seq (.ops [
    ⟨(some 114), .mv (.tmp 0), none⟩,
    ⟨(some 115), .mv (.tmp 15), none⟩,
    ⟨(some 116), .ix 1 (.tmp 114) (.tmp 115), none⟩,
    ⟨(some 117), .ld (.tmp 116), none⟩,
    ⟨(some 118), .bin .and (.tmp 117) (.const (.int .i64 255)), none⟩,
    ⟨(some 119), .bin .rem (.tmp 118) (.const (.int .i64 30)), none⟩,
    ⟨(some 120), .bin .add (.const (.int .i64 1)) (.tmp 119), none⟩,
    ⟨(some 16), .mv (.tmp 120), none⟩]) (.seq (.seq (.ops [
    ⟨(some 121), .mv (.tmp 16), none⟩,
    ⟨(some 122), .mv (.tmp 13), none⟩,
    ⟨(some 123), .bin .lss (.tmp 121) (.tmp 122), none⟩,
    ⟨(some 124), .mv (.tmp 123), none⟩,
    ⟨(some 125), .mv (.tmp 14), (some (124, false))⟩,
    ⟨(some 126), .bin .gtr (.tmp 125) (.const (.int .i64 0)), (some (124, false))⟩,
    ⟨(some 127), .mv (.tmp 126), (some (124, false))⟩,
    ⟨(some 128), .mv (.tmp 16), (some (127, true))⟩,
    ⟨(some 129), .mv (.tmp 13), (some (127, true))⟩,
    ⟨(some 130), .bin .eql (.tmp 128) (.tmp 129), (some (127, true))⟩,
    ⟨(some 131), .pick (.tmp 127) (.tmp 130) (.const (.bool false)), (some (124, false))⟩,
    ⟨(some 132), .mv (.tmp 131), (some (124, false))⟩,
    ⟨(some 133), .mv (.tmp 15), (some (132, true))⟩,
    ⟨(some 134), .mv (.tmp 12), (some (132, true))⟩,
    ⟨(some 135), .mv (.tmp 14), (some (132, true))⟩,
    ⟨(some 136), .bin .sub (.tmp 135) (.const (.int .i64 1)), (some (132, true))⟩,
    ⟨(some 137), .ix 1 (.tmp 134) (.tmp 136), (some (132, true))⟩,
    ⟨(some 138), .ld (.tmp 137), (some (132, true))⟩,
    ⟨(some 139), .bin .leq (.tmp 133) (.tmp 138), (some (132, true))⟩,
    ⟨(some 140), .pick (.tmp 132) (.tmp 139) (.const (.bool false)), (some (124, false))⟩,
    ⟨(some 141), .pick (.tmp 124) (.const (.bool true)) (.tmp 140), none⟩]) (.cond (.tmp 141) (.seq (.ops [
    ⟨(some 2), .mv (.const (.bool false)), none⟩]) (.ret)) (.skip))) (.ops [
    ⟨(some 142), .mv (.tmp 16), none⟩,
    ⟨(some 13), .mv (.tmp 142), none⟩]))))) (.ops [
    ⟨(some 143), .bin .add (.tmp 109) (.const (.int .i64 1)), none⟩,
    ⟨(some 109), .mv (.tmp 143), none⟩]))))))) (.seq (.ops [
    ⟨(some 144), .mv (.tmp 12), none⟩,
    ⟨(some 145), .len false (.tmp 144), none⟩,
    ⟨(some 146), .mv (.tmp 3), none⟩,
    ⟨(some 147), .bin .eql (.tmp 145) (.tmp 146), none⟩,
    ⟨(some 148), .mv (.tmp 147), none⟩,
    ⟨(some 149), .mv (.tmp 7), (some (148, true))⟩,
    ⟨(some 150), .call 10 [(.tmp 149)], (some (148, true))⟩,
    ⟨(some 151), .len false (.tmp 150), (some (148, true))⟩,
    ⟨(some 152), .bin .eql (.tmp 151) (.const (.int .i64 0)), (some (148, true))⟩,
    ⟨(some 153), .pick (.tmp 148) (.tmp 152) (.const (.bool false)), none⟩,
    ⟨(some 2), .mv (.tmp 153), none⟩]) (.ret))))))))))))))))⟩
theorem sl3 : slimF Try.prog h3 Try.f3 = some s3 := by kernel_rfl

/- 6: shunter/shunterlaw16.WorldSleeps$1 -/
def h6 : List (Nat × ST × List OD) := []
def s6 : SF := ⟨5, [.t 4], .seq (.ops [
    ⟨(some 4), .mv (.const (.int .i64 0)), none⟩]) (.seq (.ops [
    ⟨(some 4), .mv (.const (.int .i64 0)), none⟩]) (.ret))⟩
theorem sl6 : slimF Try.prog h6 Try.f6 = some s6 := by kernel_rfl

/- 4: shunter/shunterlaw16.awake -/
def h4 : List (Nat × ST × List OD) := []
def s4 : SF := ⟨56, [.t 0], .seq (.ops [
    ⟨(some 0), .mv (.const (.bool false)), none⟩]) (.seq (.ops [
    ⟨(some 8), .bd [(.int .i64 0), (.int .i64 0), (.int .i64 0), (.int .i64 0)] [(0, 1, (.const (.int .i64 20)))], none⟩,
    ⟨(some 9), .bd [(.int .i64 0), (.int .i64 0), (.int .i64 0), (.int .i64 0)] [(0, 1, (.const (.int .i64 10)))], none⟩,
    ⟨(some 10), .bs 27 2 [(.int .i64 0), (.int .i64 0), (.int .i64 0), (.int .i64 0), (.int .i64 0), (.int .i64 0), (.int .i64 0), (.int .i64 0)] [(0, 4, (.tmp 8)), (4, 4, (.tmp 9))], none⟩,
    ⟨(some 11), .bs 24 1 [(.slice none 0 0)] [(0, 1, (.tmp 10))], none⟩,
    ⟨(some 12), .bd [(.slice none 0 0), (.slice none 0 0), (.int .i64 0), (.slice none 0 0)] [(0, 1, (.tmp 11))], none⟩,
    ⟨(some 13), .call 5 [(.tmp 12)], none⟩,
    ⟨(some 1), .mv (.tmp 13), none⟩]) (.seq (.seq (.ops [
    ⟨(some 14), .mv (.tmp 1), none⟩,
    ⟨(some 15), .raw (.binOp .eql 28 (.tmp 14) (.const (.pointer none)) 28) 4, none⟩]) (.cond (.tmp 15) (.seq (.ops [
    ⟨(some 0), .mv (.const (.bool false)), none⟩]) (.ret)) (.skip))) (.seq (.ops [
    ⟨(some 2), .mv (.func 11), none⟩]) (.seq (.ops [
    ⟨(some 16), .mv (.tmp 1), none⟩,
    ⟨(some 17), .mv (.tmp 2), none⟩,
    ⟨(some 18), .call 7 [(.tmp 16), (.const (.int .i64 0)), (.tmp 17)], none⟩,
    ⟨(some 19), .mv (.tmp 1), none⟩,
    ⟨(some 20), .mv (.tmp 2), none⟩,
    ⟨(some 21), .call 7 [(.tmp 19), (.const (.int .i64 0)), (.tmp 20)], none⟩,
    ⟨(some 3), .al 36 [(.bool false), (.slice none 0 0)], none⟩,
    ⟨(some 4), .al 36 [(.bool false), (.slice none 0 0)], none⟩,
    ⟨none, .st 2 (.tmp 3) (.tmp 18), none⟩,
    ⟨none, .st 2 (.tmp 4) (.tmp 21), none⟩]) (.seq (.ops [
    ⟨(some 23), .mv (.tmp 1), none⟩,
    ⟨(some 24), .call 12 [(.tmp 23)], none⟩,
    ⟨(some 22), .mv (.tmp 24), none⟩,
    ⟨(some 25), .ext (.tmp 22) 0, none⟩,
    ⟨(some 26), .ext (.tmp 22) 1, none⟩,
    ⟨(some 5), .mv (.tmp 25), none⟩,
    ⟨(some 6), .mv (.tmp 26), none⟩]) (.seq (.ops [
    ⟨(some 27), .mv (.tmp 1), none⟩,
    ⟨(some 28), .call 9 [(.tmp 27)], none⟩,
    ⟨(some 7), .mv (.tmp 28), none⟩]) (.seq (.ops [
    ⟨(some 29), .fa 0 (.tmp 3), none⟩,
    ⟨(some 30), .ld (.tmp 29), none⟩,
    ⟨(some 31), .mv (.tmp 30), none⟩,
    ⟨(some 32), .fa 0 (.tmp 4), (some (31, true))⟩,
    ⟨(some 33), .ld (.tmp 32), (some (31, true))⟩,
    ⟨(some 34), .un .not (.tmp 33), (some (31, true))⟩,
    ⟨(some 35), .pick (.tmp 31) (.tmp 34) (.const (.bool false)), none⟩,
    ⟨(some 36), .mv (.tmp 35), none⟩,
    ⟨(some 37), .mv (.tmp 5), (some (36, true))⟩,
    ⟨(some 38), .bin .eql (.tmp 37) (.const (.int .i64 1)), (some (36, true))⟩,
    ⟨(some 39), .pick (.tmp 36) (.tmp 38) (.const (.bool false)), none⟩,
    ⟨(some 40), .mv (.tmp 39), none⟩,
    ⟨(some 41), .mv (.tmp 7), (some (40, true))⟩,
    ⟨(some 42), .len false (.tmp 41), (some (40, true))⟩,
    ⟨(some 43), .bin .eql (.tmp 42) (.const (.int .i64 1)), (some (40, true))⟩,
    ⟨(some 44), .pick (.tmp 40) (.tmp 43) (.const (.bool false)), none⟩,
    ⟨(some 45), .mv (.tmp 44), none⟩,
    ⟨(some 46), .mv (.tmp 7), (some (45, true))⟩,
    ⟨(some 47), .ix 1 (.tmp 46) (.const (.int .i64 0)), (some (45, true))⟩,
    ⟨(some 48), .ld (.tmp 47), (some (45, true))⟩,
    ⟨(some 49), .bin .eql (.tmp 48) (.const (.int .i64 0)), (some (45, true))⟩,
    ⟨(some 50), .pick (.tmp 45) (.tmp 49) (.const (.bool false)), none⟩,
    ⟨(some 51), .mv (.tmp 50), none⟩,
    ⟨(some 52), .mv (.tmp 1), (some (51, true))⟩,
    ⟨(some 53), .call 13 [(.tmp 52), (.const (.int .i64 0))], (some (51, true))⟩,
    ⟨(some 54), .bin .eql (.tmp 53) (.const (.int .i64 4)), (some (51, true))⟩,
    ⟨(some 55), .pick (.tmp 51) (.tmp 54) (.const (.bool false)), none⟩,
    ⟨(some 0), .mv (.tmp 55), none⟩]) (.ret))))))))⟩
theorem sl4 : slimF Try.prog h4 Try.f4 = some s4 := by kernel_rfl

/- 11: shunter/shunterlaw16.awake$1 -/
def h11 : List (Nat × ST × List OD) := []
def s11 : SF := ⟨5, [.t 4], .seq (.ops [
    ⟨(some 4), .mv (.const (.int .i64 0)), none⟩]) (.seq (.ops [
    ⟨(some 4), .mv (.const (.int .i64 0)), none⟩]) (.ret))⟩
theorem sl11 : slimF Try.prog h11 Try.f11 = some s11 := by kernel_rfl

end Go.Proofs.Ytojbbajmldbffaa
