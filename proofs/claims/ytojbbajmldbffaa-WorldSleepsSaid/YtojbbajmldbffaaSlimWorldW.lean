/- Slim code of 16 functions, each held against the program by the kernel. -/
import Derived.Test.YtojbbajmldbffaaProg
import Derived.Test.YtojbbajmldbffaaDefer
import Derived.KernelRfl
set_option maxRecDepth 100000
namespace Go.Proofs.Ytojbbajmldbffaa
open Go.Shu

/- 5: shunter/world.New -/
def h5 : List (Nat × ST × List OD) := [(1, .q 0 <| .x 1 <| .q 2 <| .x 3 <| .x 4 <| .q 5 <| .x 6 <| .q 7 <| .n, [(0, 7, 2), (0, 8, 0), (2, 9, 128), (4, 10, 256), (8, 11, 512), (17, 12, 1088), (32, 13, 2048), (127, 4, 4096)]), (5, .q 0 <| .q 1 <| .q 2 <| .q 3 <| .q 4 <| .q 5 <| .x 6 <| .x 7 <| .x 8 <| .q 9 <| .q 10 <| .x 11 <| .n, [(0, 21, 8), (0, 22, 8), (2, 23, 2097152), (4, 24, 4194304), (8, 25, 8388608), (0, 26, 32), (32, 27, 33554432), (64, 28, 67108864), (208, 29, 150994944), (511, 30, 1048576), (1023, 31, 536870912), (1535, 0, 1342177280)]), (9, .q 0 <| .q 1 <| .q 2 <| .q 3 <| .q 4 <| .x 5 <| .x 6 <| .x 7 <| .q 8 <| .q 9 <| .x 10 <| .n, [(0, 37, 8), (0, 38, 8), (2, 39, 137438953472), (4, 40, 274877906944), (8, 41, 549755813888), (0, 42, 0), (32, 43, 2199023255552), (112, 44, 5497558138880), (255, 45, 68719476736), (511, 46, 17592186044416), (767, 0, 43980465111040)])]
def s5 : SF := ⟨48, [.t 2], .seq (.ops [
    ⟨(some 1), .box 33 (.tmp 0), none⟩,
    ⟨(some 2), .mv (.const (.pointer none)), none⟩]) (.seq (.draw (.q 0 ⟨(some 6), .lda 4 (.tmp 1), none⟩ <|
    .x [0] ⟨(some 7), .call 14 [(.const (.int .i64 0)), (.const (.int .i64 0))], none⟩ <|
    .q 2 ⟨(some 8), .bd [(.int .i64 0), (.slice none 0 0), (.int .i64 0), (.int .i64 0), (.int .i64 0), (.int .i64 0)] [(0, 1, (.const (.int .i64 1))), (1, 1, (.tmp 7))], none⟩ <|
    .x [0] ⟨(some 9), .box 52 (.tmp 8), none⟩ <|
    .x [0] ⟨(some 10), .bs 47 1 [(.pointer none)] [(0, 1, (.tmp 9))], none⟩ <|
    .q 5 ⟨(some 11), .bd [(.slice none 0 0), (.slice none 0 0), (.int .i64 0), (.slice none 0 0), (.slice none 0 0), (.int .u64 0), (.slice none 0 0), (.slice none 0 0), (.slice none 0 0), (.int .u64 0), (.slice none 0 0), (.int .i64 0), (.int .i64 0), (.slice none 0 0), .nilFunc] [(0, 4, (.tmp 6)), (4, 1, (.tmp 10))], none⟩ <|
    .x [] ⟨(some 12), .box 60 (.tmp 11), none⟩ <|
    .q 7 ⟨(some 3), .mv (.tmp 12), none⟩ <|
    .n)) (.seq (.seq (.ops [
    ⟨(some 13), .fa 1 (.tmp 1), none⟩,
    ⟨(some 14), .ld (.tmp 13), none⟩,
    ⟨(some 15), .len false (.tmp 14), none⟩,
    ⟨(some 16), .mv (.const (.int .i64 0)), none⟩]) (.block 0 (.loop (.seq (.ops [
    ⟨(some 17), .bin .lss (.tmp 16) (.tmp 15), none⟩]) (.seq (.cond (.tmp 17) (.skip) (.exit 0)) (.seq (.block 1 (.seq (.ops [
    ⟨(some 18), .ix 1 (.tmp 14) (.tmp 16), none⟩,
    ⟨(some 19), .ld (.tmp 18), none⟩,
    ⟨(some 5), .mv (.tmp 19), none⟩]) (.draw (.q 0 ⟨(some 20), .mv (.tmp 3), none⟩ <|
    .q 1 ⟨(some 21), .mv (.tmp 3), none⟩ <|
    .q 2 ⟨(some 22), .nil (.tmp 21), none⟩ <|
    .q 3 ⟨(some 23), .fa 6 (.tmp 22), none⟩ <|
    .q 4 ⟨(some 24), .ld (.tmp 23), none⟩ <|
    .q 5 ⟨(some 25), .mv (.tmp 5), none⟩ <|
    .x [4] ⟨(some 26), .call 15 [(.tmp 25)], none⟩ <|
    .x [4] ⟨(some 27), .bs 61 1 [(.pointer none)] [(0, 1, (.tmp 26))], none⟩ <|
    .x [] ⟨(some 28), .app 61 1 8 #[(.pointer none)] (.tmp 24) (.tmp 27), none⟩ <|
    .q 9 ⟨(some 29), .nil (.tmp 20), none⟩ <|
    .q 10 ⟨(some 30), .fa 6 (.tmp 29), none⟩ <|
    .x [] ⟨none, .st 1 (.tmp 30) (.tmp 28), none⟩ <|
    .n)))) (.ops [
    ⟨(some 31), .bin .add (.tmp 16) (.const (.int .i64 1)), none⟩,
    ⟨(some 16), .mv (.tmp 31), none⟩]))))))) (.seq (.seq (.ops [
    ⟨(some 32), .fa 2 (.tmp 1), none⟩,
    ⟨(some 33), .ld (.tmp 32), none⟩,
    ⟨(some 34), .mv (.const (.int .i64 0)), none⟩]) (.block 2 (.loop (.seq (.ops [
    ⟨(some 35), .bin .lss (.tmp 34) (.tmp 33), none⟩]) (.seq (.cond (.tmp 35) (.skip) (.exit 2)) (.seq (.block 3 (.draw (.q 0 ⟨(some 36), .mv (.tmp 3), none⟩ <|
    .q 1 ⟨(some 37), .mv (.tmp 3), none⟩ <|
    .q 2 ⟨(some 38), .nil (.tmp 37), none⟩ <|
    .q 3 ⟨(some 39), .fa 7 (.tmp 38), none⟩ <|
    .q 4 ⟨(some 40), .ld (.tmp 39), none⟩ <|
    .x [4] ⟨(some 41), .call 16 [], none⟩ <|
    .x [4] ⟨(some 42), .bs 63 1 [(.pointer none)] [(0, 1, (.tmp 41))], none⟩ <|
    .x [] ⟨(some 43), .app 63 1 8 #[(.pointer none)] (.tmp 40) (.tmp 42), none⟩ <|
    .q 8 ⟨(some 44), .nil (.tmp 36), none⟩ <|
    .q 9 ⟨(some 45), .fa 7 (.tmp 44), none⟩ <|
    .x [] ⟨none, .st 1 (.tmp 45) (.tmp 43), none⟩ <|
    .n))) (.ops [
    ⟨(some 46), .bin .add (.tmp 34) (.const (.int .i64 1)), none⟩,
    ⟨(some 34), .mv (.tmp 46), none⟩]))))))) (.seq (.ops [
    ⟨(some 47), .mv (.tmp 3), none⟩,
    ⟨(some 2), .mv (.tmp 47), none⟩]) (.ret)))))⟩
theorem sl5 : slimF Try.prog h5 Try.f5 = some s5 := by kernel_rfl

/- 19: (*shunter/world.World).wake -/
def h19 : List (Nat × ST × List OD) := []
def s19 : SF := ⟨23, [], .seq (.ops [
    ⟨(some 4), .mv (.tmp 0), none⟩,
    ⟨(some 5), .nil (.tmp 4), none⟩,
    ⟨(some 6), .fa 4 (.tmp 5), none⟩,
    ⟨(some 7), .ld (.tmp 6), none⟩,
    ⟨(some 8), .mv (.tmp 1), none⟩,
    ⟨(some 9), .ix 1 (.tmp 7) (.tmp 8), none⟩,
    ⟨(some 10), .ld (.tmp 9), none⟩,
    ⟨(some 11), .nil (.tmp 10), none⟩,
    ⟨(some 12), .fa 0 (.tmp 11), none⟩,
    ⟨none, .st 1 (.tmp 12) (.const (.int .i64 1)), none⟩]) (.ops [
    ⟨(some 13), .mv (.tmp 0), none⟩,
    ⟨(some 14), .mv (.tmp 0), none⟩,
    ⟨(some 15), .nil (.tmp 14), none⟩,
    ⟨(some 16), .fa 13 (.tmp 15), none⟩,
    ⟨(some 17), .ld (.tmp 16), none⟩,
    ⟨(some 18), .mv (.tmp 1), none⟩,
    ⟨(some 19), .bs 3 1 [(.int .i64 0)] [(0, 1, (.tmp 18))], none⟩,
    ⟨(some 20), .app 3 1 8 #[(.int .i64 0)] (.tmp 17) (.tmp 19), none⟩,
    ⟨(some 21), .nil (.tmp 13), none⟩,
    ⟨(some 22), .fa 13 (.tmp 21), none⟩,
    ⟨none, .st 1 (.tmp 22) (.tmp 20), none⟩])⟩
theorem sl19 : slimF Try.prog h19 Try.f19 = some s19 := by kernel_rfl

/- 36: (*shunter/world.World).call -/
def h36 : List (Nat × ST × List OD) := [(1, .q 0 <| .q 1 <| .q 2 <| .q 3 <| .q 4 <| .q 5 <| .q 6 <| .q 7 <| .q 8 <| .q 9 <| .q 10 <| .q 11 <| .q 12 <| .q 13 <| .q 14 <| .q 15 <| .q 16 <| .q 17 <| .q 18 <| .q 19 <| .q 20 <| .x 21 <| .q 22 <| .q 23 <| .q 24 <| .q 25 <| .q 26 <| .n, [(0, 12, 1), (1, 13, 2048), (2, 14, 4096), (4, 15, 8192), (0, 16, 2), (24, 17, 49152), (32, 18, 65536), (64, 19, 131072), (128, 20, 262144), (256, 21, 524288), (0, 22, 128), (1024, 23, 2097152), (0, 24, 4), (0, 25, 128), (8192, 26, 16777216), (4096, 27, 8388608), (32768, 28, 67108864), (81920, 29, 167772160), (131072, 30, 268435456), (0, 31, 128), (524288, 32, 1073741824), (1313280, 33, 2689597440), (2097152, 11, 4294967296), (4194304, 34, 1024), (4194304, 35, 1024), (16777215, 9, 8589934592), (67108863, 10, 17179869184)])]
def s36 : SF := ⟨48, [], .seq (.ops [
    ⟨(some 7), .box 27 (.tmp 3), none⟩]) (.seq (.draw (.q 0 ⟨(some 11), .mv (.tmp 0), none⟩ <|
    .q 1 ⟨(some 12), .nil (.tmp 11), none⟩ <|
    .q 2 ⟨(some 13), .fa 4 (.tmp 12), none⟩ <|
    .q 3 ⟨(some 14), .ld (.tmp 13), none⟩ <|
    .q 4 ⟨(some 15), .mv (.tmp 1), none⟩ <|
    .q 5 ⟨(some 16), .ix 1 (.tmp 14) (.tmp 15), none⟩ <|
    .q 6 ⟨(some 17), .ld (.tmp 16), none⟩ <|
    .q 7 ⟨(some 18), .nil (.tmp 17), none⟩ <|
    .q 8 ⟨(some 19), .fa 1 (.tmp 18), none⟩ <|
    .q 9 ⟨(some 20), .ld (.tmp 19), none⟩ <|
    .q 10 ⟨(some 21), .fa 1 (.tmp 7), none⟩ <|
    .q 11 ⟨(some 22), .ld (.tmp 21), none⟩ <|
    .q 12 ⟨(some 23), .mv (.tmp 2), none⟩ <|
    .q 13 ⟨(some 24), .fa 2 (.tmp 7), none⟩ <|
    .q 14 ⟨(some 25), .ld (.tmp 24), none⟩ <|
    .q 15 ⟨(some 26), .nil (.tmp 23), none⟩ <|
    .q 16 ⟨(some 27), .fa 2 (.tmp 26), none⟩ <|
    .q 17 ⟨(some 28), .ixa 8 1 (.tmp 27) (.tmp 25), none⟩ <|
    .q 18 ⟨(some 29), .ld (.tmp 28), none⟩ <|
    .q 19 ⟨(some 30), .fa 3 (.tmp 7), none⟩ <|
    .q 20 ⟨(some 31), .ld (.tmp 30), none⟩ <|
    .x [] ⟨(some 32), .call 67 [(.tmp 20), (.tmp 22), (.tmp 29), (.tmp 31)], none⟩ <|
    .q 22 ⟨(some 10), .mv (.tmp 32), none⟩ <|
    .q 23 ⟨(some 33), .ext (.tmp 10) 0, none⟩ <|
    .q 24 ⟨(some 34), .ext (.tmp 10) 1, none⟩ <|
    .q 25 ⟨(some 8), .mv (.tmp 33), none⟩ <|
    .q 26 ⟨(some 9), .mv (.tmp 34), none⟩ <|
    .n)) (.seq (.seq (.ops [
    ⟨(some 35), .mv (.tmp 9), none⟩,
    ⟨(some 36), .un .not (.tmp 35), none⟩]) (.cond (.tmp 36) (.ops [
    ⟨(some 37), .mi 80 (.const (.int .i64 (-4))), none⟩,
    ⟨none, .pan (.tmp 37), none⟩]) (.skip))) (.ops [
    ⟨(some 38), .mv (.tmp 0), none⟩,
    ⟨(some 39), .nil (.tmp 38), none⟩,
    ⟨(some 40), .fa 4 (.tmp 39), none⟩,
    ⟨(some 41), .ld (.tmp 40), none⟩,
    ⟨(some 42), .mv (.tmp 1), none⟩,
    ⟨(some 43), .ix 1 (.tmp 41) (.tmp 42), none⟩,
    ⟨(some 44), .ld (.tmp 43), none⟩,
    ⟨(some 45), .mv (.tmp 8), none⟩,
    ⟨(some 46), .nil (.tmp 44), none⟩,
    ⟨(some 47), .fa 1 (.tmp 46), none⟩,
    ⟨none, .st 1 (.tmp 47) (.tmp 45), none⟩])))⟩
theorem sl36 : slimF Try.prog h36 Try.f36 = some s36 := by kernel_rfl

/- 37: (*shunter/world.World).back -/
def h37 : List (Nat × ST × List OD) := [(1, .q 0 <| .q 1 <| .q 2 <| .q 3 <| .q 4 <| .q 5 <| .q 6 <| .q 7 <| .q 8 <| .q 9 <| .q 10 <| .q 11 <| .q 12 <| .q 13 <| .q 14 <| .q 15 <| .q 16 <| .x 17 <| .q 18 <| .q 19 <| .q 20 <| .q 21 <| .q 22 <| .n, [(0, 12, 1), (1, 13, 2048), (2, 14, 4096), (4, 15, 8192), (0, 16, 2), (24, 17, 49152), (32, 18, 65536), (64, 19, 131072), (128, 20, 262144), (256, 21, 524288), (0, 22, 4), (0, 23, 128), (2048, 24, 4194304), (1024, 25, 2097152), (8192, 26, 16777216), (20480, 27, 41943040), (32768, 28, 67108864), (66048, 29, 135266304), (131072, 11, 268435456), (262144, 30, 1024), (262144, 31, 1024), (1048575, 9, 536870912), (4194303, 10, 1073741824)])]
def s37 : SF := ⟨56, [], .seq (.ops [
    ⟨(some 7), .box 27 (.tmp 3), none⟩]) (.seq (.seq (.draw (.q 0 ⟨(some 11), .mv (.tmp 0), none⟩ <|
    .q 1 ⟨(some 12), .nil (.tmp 11), none⟩ <|
    .q 2 ⟨(some 13), .fa 4 (.tmp 12), none⟩ <|
    .q 3 ⟨(some 14), .ld (.tmp 13), none⟩ <|
    .q 4 ⟨(some 15), .mv (.tmp 1), none⟩ <|
    .q 5 ⟨(some 16), .ix 1 (.tmp 14) (.tmp 15), none⟩ <|
    .q 6 ⟨(some 17), .ld (.tmp 16), none⟩ <|
    .q 7 ⟨(some 18), .nil (.tmp 17), none⟩ <|
    .q 8 ⟨(some 19), .fa 1 (.tmp 18), none⟩ <|
    .q 9 ⟨(some 20), .ld (.tmp 19), none⟩ <|
    .q 10 ⟨(some 21), .mv (.tmp 2), none⟩ <|
    .q 11 ⟨(some 22), .fa 1 (.tmp 7), none⟩ <|
    .q 12 ⟨(some 23), .ld (.tmp 22), none⟩ <|
    .q 13 ⟨(some 24), .nil (.tmp 21), none⟩ <|
    .q 14 ⟨(some 25), .fa 2 (.tmp 24), none⟩ <|
    .q 15 ⟨(some 26), .ixa 8 1 (.tmp 25) (.tmp 23), none⟩ <|
    .q 16 ⟨(some 27), .ld (.tmp 26), none⟩ <|
    .x [] ⟨(some 28), .call 68 [(.tmp 20), (.tmp 27)], none⟩ <|
    .q 18 ⟨(some 10), .mv (.tmp 28), none⟩ <|
    .q 19 ⟨(some 29), .ext (.tmp 10) 0, none⟩ <|
    .q 20 ⟨(some 30), .ext (.tmp 10) 1, none⟩ <|
    .q 21 ⟨(some 8), .mv (.tmp 29), none⟩ <|
    .q 22 ⟨(some 9), .mv (.tmp 30), none⟩ <|
    .n)) (.seq (.ops [
    ⟨(some 31), .mv (.tmp 9), none⟩]) (.cond (.tmp 31) (.seq (.ops [
    ⟨(some 32), .mv (.tmp 0), none⟩,
    ⟨(some 33), .nil (.tmp 32), none⟩,
    ⟨(some 34), .fa 4 (.tmp 33), none⟩,
    ⟨(some 35), .ld (.tmp 34), none⟩,
    ⟨(some 36), .mv (.tmp 1), none⟩,
    ⟨(some 37), .ix 1 (.tmp 35) (.tmp 36), none⟩,
    ⟨(some 38), .ld (.tmp 37), none⟩,
    ⟨(some 39), .mv (.tmp 8), none⟩,
    ⟨(some 40), .nil (.tmp 38), none⟩,
    ⟨(some 41), .fa 1 (.tmp 40), none⟩,
    ⟨none, .st 1 (.tmp 41) (.tmp 39), none⟩]) (.ret)) (.skip)))) (.seq (.ops [
    ⟨(some 42), .mv (.tmp 0), none⟩,
    ⟨(some 43), .nil (.tmp 42), none⟩,
    ⟨(some 44), .fa 4 (.tmp 43), none⟩,
    ⟨(some 45), .ld (.tmp 44), none⟩,
    ⟨(some 46), .mv (.tmp 1), none⟩,
    ⟨(some 47), .ix 1 (.tmp 45) (.tmp 46), none⟩,
    ⟨(some 48), .ld (.tmp 47), none⟩,
    ⟨(some 49), .nil (.tmp 48), none⟩,
    ⟨(some 50), .fa 0 (.tmp 49), none⟩,
    ⟨none, .st 1 (.tmp 50) (.const (.int .i64 4)), none⟩]) (.seq (.ops [
    ⟨(some 51), .mv (.tmp 1), none⟩,
    ⟨(some 52), .bin .eql (.tmp 51) (.const (.int .i64 0)), none⟩]) (.cond (.tmp 52) (.ops [
    ⟨(some 53), .mv (.tmp 0), none⟩,
    ⟨(some 54), .nil (.tmp 53), none⟩,
    ⟨(some 55), .fa 11 (.tmp 54), none⟩,
    ⟨none, .st 1 (.tmp 55) (.const (.int .i64 1)), none⟩]) (.skip)))))⟩
theorem sl37 : slimF Try.prog h37 Try.f37 = some s37 := by kernel_rfl

/- 38: (*shunter/world.World).spawn -/
def h38 : List (Nat × ST × List OD) := [(4, .q 0 <| .q 1 <| .q 2 <| .q 3 <| .q 4 <| .q 5 <| .q 6 <| .q 7 <| .q 8 <| .q 9 <| .q 10 <| .q 11 <| .q 12 <| .q 13 <| .x 14 <| .q 15 <| .x 16 <| .x 17 <| .x 18 <| .q 19 <| .q 20 <| .x 21 <| .n, [(0, 22, 1), (0, 23, 1), (2, 24, 4194304), (4, 25, 8388608), (8, 26, 16777216), (0, 27, 128), (32, 28, 67108864), (0, 29, 4), (0, 30, 128), (256, 31, 536870912), (128, 32, 268435456), (1024, 33, 2147483648), (2560, 34, 5368709120), (4096, 35, 8589934592), (8256, 36, 17314086912), (16384, 37, 34359738368), (32768, 38, 68719476736), (65536, 39, 137438953472), (147472, 40, 274911461376), (524287, 41, 2097152), (1048575, 42, 1099511627776), (1572863, 0, 2748779069440)]), (6, .q 0 <| .q 1 <| .q 2 <| .q 3 <| .q 4 <| .q 5 <| .q 6 <| .x 7 <| .n, [(0, 46, 4), (0, 47, 128), (2, 48, 70368744177664), (0, 49, 256), (1, 50, 35184372088832), (16, 51, 562949953421312), (47, 52, 1266637395197952), (79, 0, 2533274790395904)])]
def s38 : SF := ⟨52, [], .seq (.ops [
    ⟨(some 7), .box 27 (.tmp 3), none⟩]) (.seq (.seq (.ops [
    ⟨(some 9), .mv (.tmp 0), none⟩,
    ⟨(some 10), .nil (.tmp 9), none⟩,
    ⟨(some 11), .fa 4 (.tmp 10), none⟩,
    ⟨(some 12), .ld (.tmp 11), none⟩,
    ⟨(some 13), .len false (.tmp 12), none⟩,
    ⟨(some 14), .bin .geq (.tmp 13) (.const (.int .i64 100)), none⟩]) (.cond (.tmp 14) (.ops [
    ⟨(some 15), .mi 80 (.const (.int .i64 (-5))), none⟩,
    ⟨none, .pan (.tmp 15), none⟩]) (.skip))) (.seq (.ops [
    ⟨(some 16), .mv (.tmp 0), none⟩,
    ⟨(some 17), .nil (.tmp 16), none⟩,
    ⟨(some 18), .fa 4 (.tmp 17), none⟩,
    ⟨(some 19), .ld (.tmp 18), none⟩,
    ⟨(some 20), .len false (.tmp 19), none⟩,
    ⟨(some 8), .mv (.tmp 20), none⟩]) (.seq (.draw (.q 0 ⟨(some 21), .mv (.tmp 0), none⟩ <|
    .q 1 ⟨(some 22), .mv (.tmp 0), none⟩ <|
    .q 2 ⟨(some 23), .nil (.tmp 22), none⟩ <|
    .q 3 ⟨(some 24), .fa 4 (.tmp 23), none⟩ <|
    .q 4 ⟨(some 25), .ld (.tmp 24), none⟩ <|
    .q 5 ⟨(some 26), .fa 1 (.tmp 7), none⟩ <|
    .q 6 ⟨(some 27), .ld (.tmp 26), none⟩ <|
    .q 7 ⟨(some 28), .mv (.tmp 2), none⟩ <|
    .q 8 ⟨(some 29), .fa 2 (.tmp 7), none⟩ <|
    .q 9 ⟨(some 30), .ld (.tmp 29), none⟩ <|
    .q 10 ⟨(some 31), .nil (.tmp 28), none⟩ <|
    .q 11 ⟨(some 32), .fa 2 (.tmp 31), none⟩ <|
    .q 12 ⟨(some 33), .ixa 8 1 (.tmp 32) (.tmp 30), none⟩ <|
    .q 13 ⟨(some 34), .ld (.tmp 33), none⟩ <|
    .x [4] ⟨(some 35), .call 14 [(.tmp 27), (.tmp 34)], none⟩ <|
    .q 15 ⟨(some 36), .bd [(.int .i64 0), (.slice none 0 0), (.int .i64 0), (.int .i64 0), (.int .i64 0), (.int .i64 0)] [(1, 1, (.tmp 35))], none⟩ <|
    .x [4] ⟨(some 37), .box 52 (.tmp 36), none⟩ <|
    .x [4] ⟨(some 38), .bs 47 1 [(.pointer none)] [(0, 1, (.tmp 37))], none⟩ <|
    .x [] ⟨(some 39), .app 47 1 8 #[(.pointer none)] (.tmp 25) (.tmp 38), none⟩ <|
    .q 19 ⟨(some 40), .nil (.tmp 21), none⟩ <|
    .q 20 ⟨(some 41), .fa 4 (.tmp 40), none⟩ <|
    .x [] ⟨none, .st 1 (.tmp 41) (.tmp 39), none⟩ <|
    .n)) (.seq (.ops [
    ⟨(some 42), .mv (.tmp 0), none⟩,
    ⟨(some 43), .mv (.tmp 8), none⟩,
    ⟨(some 44), .call 19 [(.tmp 42), (.tmp 43)], none⟩]) (.draw (.q 0 ⟨(some 45), .mv (.tmp 2), none⟩ <|
    .q 1 ⟨(some 46), .fa 3 (.tmp 7), none⟩ <|
    .q 2 ⟨(some 47), .ld (.tmp 46), none⟩ <|
    .q 3 ⟨(some 48), .mv (.tmp 8), none⟩ <|
    .q 4 ⟨(some 49), .nil (.tmp 45), none⟩ <|
    .q 5 ⟨(some 50), .fa 2 (.tmp 49), none⟩ <|
    .q 6 ⟨(some 51), .ixa 8 1 (.tmp 50) (.tmp 47), none⟩ <|
    .x [] ⟨none, .st 1 (.tmp 51) (.tmp 48), none⟩ <|
    .n))))))⟩
theorem sl38 : slimF Try.prog h38 Try.f38 = some s38 := by kernel_rfl

/- 39: (*shunter/world.World).yield -/
def h39 : List (Nat × ST × List OD) := []
def s39 : SF := ⟨8, [], .ops [
    ⟨(some 7), .box 27 (.tmp 3), none⟩]⟩
theorem sl39 : slimF Try.prog h39 Try.f39 = some s39 := by kernel_rfl

/- 43: (*shunter/world.World).sleep -/
def h43 : List (Nat × ST × List OD) := [(1, .q 0 <| .q 1 <| .q 2 <| .q 3 <| .q 4 <| .q 5 <| .q 6 <| .q 7 <| .q 8 <| .n, [(0, 10, 4), (0, 11, 128), (2, 12, 1024), (1, 13, 512), (8, 14, 4096), (20, 15, 10240), (32, 16, 16384), (64, 17, 32768), (255, 9, 65536)]), (3, .q 0 <| .q 1 <| .q 2 <| .q 3 <| .q 4 <| .q 5 <| .q 6 <| .q 7 <| .q 8 <| .q 9 <| .q 10 <| .x 11 <| .n, [(0, 20, 1), (1, 21, 524288), (2, 22, 1048576), (0, 23, 1), (8, 24, 4194304), (16, 25, 8388608), (32, 26, 16777216), (0, 27, 256), (128, 28, 67108864), (320, 29, 167772160), (0, 30, 2), (1540, 31, 807403520)])]
def s43 : SF := ⟨40, [], .seq (.ops [
    ⟨(some 7), .box 27 (.tmp 3), none⟩]) (.seq (.draw (.q 0 ⟨(some 9), .mv (.tmp 2), none⟩ <|
    .q 1 ⟨(some 10), .fa 1 (.tmp 7), none⟩ <|
    .q 2 ⟨(some 11), .ld (.tmp 10), none⟩ <|
    .q 3 ⟨(some 12), .nil (.tmp 9), none⟩ <|
    .q 4 ⟨(some 13), .fa 2 (.tmp 12), none⟩ <|
    .q 5 ⟨(some 14), .ixa 8 1 (.tmp 13) (.tmp 11), none⟩ <|
    .q 6 ⟨(some 15), .ld (.tmp 14), none⟩ <|
    .q 7 ⟨(some 16), .min (.tmp 15) (.const (.int .i64 1048576)), none⟩ <|
    .q 8 ⟨(some 8), .mv (.tmp 16), none⟩ <|
    .n)) (.seq (.ops [
    ⟨(some 17), .mv (.tmp 8), none⟩,
    ⟨(some 18), .bin .gtr (.tmp 17) (.const (.int .i64 0)), none⟩]) (.cond (.tmp 18) (.seq (.draw (.q 0 ⟨(some 19), .mv (.tmp 0), none⟩ <|
    .q 1 ⟨(some 20), .nil (.tmp 19), none⟩ <|
    .q 2 ⟨(some 21), .fa 8 (.tmp 20), none⟩ <|
    .q 3 ⟨(some 22), .mv (.tmp 0), none⟩ <|
    .q 4 ⟨(some 23), .nil (.tmp 22), none⟩ <|
    .q 5 ⟨(some 24), .fa 5 (.tmp 23), none⟩ <|
    .q 6 ⟨(some 25), .ld (.tmp 24), none⟩ <|
    .q 7 ⟨(some 26), .mv (.tmp 8), none⟩ <|
    .q 8 ⟨(some 27), .cv .u64 (.tmp 26), none⟩ <|
    .q 9 ⟨(some 28), .bin .add (.tmp 25) (.tmp 27), none⟩ <|
    .q 10 ⟨(some 29), .mv (.tmp 1), none⟩ <|
    .x [] ⟨(some 30), .call 70 [(.tmp 21), (.tmp 28), (.tmp 29)], none⟩ <|
    .n)) (.ops [
    ⟨(some 31), .mv (.tmp 0), none⟩,
    ⟨(some 32), .nil (.tmp 31), none⟩,
    ⟨(some 33), .fa 4 (.tmp 32), none⟩,
    ⟨(some 34), .ld (.tmp 33), none⟩,
    ⟨(some 35), .mv (.tmp 1), none⟩,
    ⟨(some 36), .ix 1 (.tmp 34) (.tmp 35), none⟩,
    ⟨(some 37), .ld (.tmp 36), none⟩,
    ⟨(some 38), .nil (.tmp 37), none⟩,
    ⟨(some 39), .fa 0 (.tmp 38), none⟩,
    ⟨none, .st 1 (.tmp 39) (.const (.int .i64 3)), none⟩])) (.skip))))⟩
theorem sl43 : slimF Try.prog h43 Try.f43 = some s43 := by kernel_rfl

/- 46: (*shunter/world.World).emit -/
def h46 : List (Nat × ST × List OD) := [(3, .q 0 <| .q 1 <| .q 2 <| .q 3 <| .q 4 <| .q 5 <| .q 6 <| .q 7 <| .q 8 <| .q 9 <| .q 10 <| .q 11 <| .x 12 <| .x 13 <| .q 14 <| .q 15 <| .x 16 <| .n, [(0, 16, 1), (0, 17, 1), (2, 18, 65536), (4, 19, 131072), (8, 20, 262144), (0, 21, 4), (0, 22, 128), (64, 23, 2097152), (32, 24, 1048576), (256, 25, 8388608), (640, 26, 20971520), (1024, 27, 33554432), (2048, 28, 67108864), (4112, 29, 134742016), (16383, 30, 32768), (32767, 31, 536870912), (49151, 0, 1342177280)])]
def s46 : SF := ⟨31, [], .seq (.ops [
    ⟨(some 7), .box 27 (.tmp 3), none⟩]) (.seq (.seq (.ops [
    ⟨(some 8), .mv (.tmp 0), none⟩,
    ⟨(some 9), .nil (.tmp 8), none⟩,
    ⟨(some 10), .fa 10 (.tmp 9), none⟩,
    ⟨(some 11), .ld (.tmp 10), none⟩,
    ⟨(some 12), .len false (.tmp 11), none⟩,
    ⟨(some 13), .bin .geq (.tmp 12) (.const (.int .i64 1000)), none⟩]) (.cond (.tmp 13) (.ops [
    ⟨(some 14), .mi 80 (.const (.int .i64 (-6))), none⟩,
    ⟨none, .pan (.tmp 14), none⟩]) (.skip))) (.draw (.q 0 ⟨(some 15), .mv (.tmp 0), none⟩ <|
    .q 1 ⟨(some 16), .mv (.tmp 0), none⟩ <|
    .q 2 ⟨(some 17), .nil (.tmp 16), none⟩ <|
    .q 3 ⟨(some 18), .fa 10 (.tmp 17), none⟩ <|
    .q 4 ⟨(some 19), .ld (.tmp 18), none⟩ <|
    .q 5 ⟨(some 20), .mv (.tmp 2), none⟩ <|
    .q 6 ⟨(some 21), .fa 1 (.tmp 7), none⟩ <|
    .q 7 ⟨(some 22), .ld (.tmp 21), none⟩ <|
    .q 8 ⟨(some 23), .nil (.tmp 20), none⟩ <|
    .q 9 ⟨(some 24), .fa 2 (.tmp 23), none⟩ <|
    .q 10 ⟨(some 25), .ixa 8 1 (.tmp 24) (.tmp 22), none⟩ <|
    .q 11 ⟨(some 26), .ld (.tmp 25), none⟩ <|
    .x [4] ⟨(some 27), .bs 2 1 [(.int .i64 0)] [(0, 1, (.tmp 26))], none⟩ <|
    .x [] ⟨(some 28), .app 2 1 8 #[(.int .i64 0)] (.tmp 19) (.tmp 27), none⟩ <|
    .q 14 ⟨(some 29), .nil (.tmp 15), none⟩ <|
    .q 15 ⟨(some 30), .fa 10 (.tmp 29), none⟩ <|
    .x [] ⟨none, .st 1 (.tmp 30) (.tmp 28), none⟩ <|
    .n)))⟩
theorem sl46 : slimF Try.prog h46 Try.f46 = some s46 := by kernel_rfl

/- 47: (*shunter/world.World).stop -/
def h47 : List (Nat × ST × List OD) := []
def s47 : SF := ⟨11, [], .seq (.ops [
    ⟨(some 7), .box 27 (.tmp 3), none⟩]) (.ops [
    ⟨(some 8), .fa 1 (.tmp 7), none⟩,
    ⟨(some 9), .ld (.tmp 8), none⟩,
    ⟨(some 10), .mi 80 (.tmp 9), none⟩,
    ⟨none, .pan (.tmp 10), none⟩])⟩
theorem sl47 : slimF Try.prog h47 Try.f47 = some s47 := by kernel_rfl

/- 26: shunter/world.table -/
def h26 : List (Nat × ST × List OD) := []
def s26 : SF := ⟨3, [.t 0], .seq (.ops [
    ⟨(some 0), .mv (.const (.map none)), none⟩]) (.seq (.ops [
    ⟨(some 1), .raw (.makeMap 85 none) 85, none⟩,
    ⟨none, .raw (.insert 85 (.tmp 1) (.const (.int .i64 9)) (.func 36)) 0, none⟩,
    ⟨none, .raw (.insert 85 (.tmp 1) (.const (.int .i64 10)) (.func 37)) 0, none⟩,
    ⟨none, .raw (.insert 85 (.tmp 1) (.const (.int .i64 11)) (.func 38)) 0, none⟩,
    ⟨none, .raw (.insert 85 (.tmp 1) (.const (.int .i64 12)) (.func 39)) 0, none⟩,
    ⟨none, .raw (.insert 85 (.tmp 1) (.const (.int .i64 13)) (.func 40)) 0, none⟩,
    ⟨none, .raw (.insert 85 (.tmp 1) (.const (.int .i64 14)) (.func 41)) 0, none⟩,
    ⟨none, .raw (.insert 85 (.tmp 1) (.const (.int .i64 15)) (.func 42)) 0, none⟩,
    ⟨none, .raw (.insert 85 (.tmp 1) (.const (.int .i64 17)) (.func 43)) 0, none⟩,
    ⟨none, .raw (.insert 85 (.tmp 1) (.const (.int .i64 18)) (.func 44)) 0, none⟩,
    ⟨none, .raw (.insert 85 (.tmp 1) (.const (.int .i64 19)) (.func 45)) 0, none⟩,
    ⟨none, .raw (.insert 85 (.tmp 1) (.const (.int .i64 20)) (.func 46)) 0, none⟩,
    ⟨none, .raw (.insert 85 (.tmp 1) (.const (.int .i64 22)) (.func 47)) 0, none⟩,
    ⟨(some 2), .mv (.tmp 1), none⟩,
    ⟨(some 0), .mv (.tmp 2), none⟩]) (.ret))⟩
theorem sl26 : slimF Try.prog h26 Try.f26 = some s26 := by kernel_rfl

/- 7: (*shunter/world.World).Exec -/
def h7 : List (Nat × ST × List OD) := [(5, .q 0 <| .q 1 <| .q 2 <| .q 3 <| .q 4 <| .q 5 <| .q 6 <| .q 7 <| .q 8 <| .q 9 <| .q 10 <| .q 11 <| .q 12 <| .q 13 <| .q 14 <| .q 15 <| .q 16 <| .q 17 <| .q 18 <| .q 19 <| .q 20 <| .q 21 <| .q 22 <| .q 23 <| .q 24 <| .q 25 <| .q 26 <| .x 27 <| .n, [(0, 51, 128), (1, 52, 1125899906842624), (2, 53, 2251799813685248), (4, 54, 4503599627370497), (12, 55, 13510798882111488), (20, 56, 22517998136852480), (36, 57, 40532396646334464), (68, 58, 76561193665298432), (132, 59, 148618787703226368), (260, 60, 288230376151711744), (512, 61, 576460752303423489), (1536, 62, 1729382256910270464), (2560, 63, 2882303761517117440), (4608, 64, 5188146770730811392), (512, 65, 576460752303423490), (25088, 66, 28246576862867750912), (33280, 67, 37469948899722526720), (66048, 68, 74363437047141629952), (131584, 69, 148150413341979836416), (262656, 70, 295724365931656249344), (524800, 71, 590872271111009075200), (1049088, 72, 1181168081469714726912), (0, 73, 1), (4194304, 74, 4722366482869645213696), (8388608, 75, 9444732965739290427392), (16777216, 76, 18889465931478580854784), (35651584, 77, 40140115104391984316416), (134217727, 0, 75557863725914323419200)])]
def s7 : SF := ⟨77, [.c (some 2) 6], .seq (.ops [
    ⟨(some 6), .al 36 [(.bool false), (.slice none 0 0)], none⟩]) (.seq (.seq (.ops [
    ⟨(some 8), .mv (.tmp 1), none⟩,
    ⟨(some 9), .bin .lss (.tmp 8) (.const (.int .i64 0)), none⟩,
    ⟨(some 10), .mv (.tmp 9), none⟩,
    ⟨(some 11), .mv (.tmp 1), (some (10, false))⟩,
    ⟨(some 12), .mv (.tmp 0), (some (10, false))⟩,
    ⟨(some 13), .nil (.tmp 12), (some (10, false))⟩,
    ⟨(some 14), .fa 4 (.tmp 13), (some (10, false))⟩,
    ⟨(some 15), .ld (.tmp 14), (some (10, false))⟩,
    ⟨(some 16), .len false (.tmp 15), (some (10, false))⟩,
    ⟨(some 17), .bin .geq (.tmp 11) (.tmp 16), (some (10, false))⟩,
    ⟨(some 18), .pick (.tmp 10) (.const (.bool true)) (.tmp 17), none⟩,
    ⟨(some 19), .mv (.tmp 18), none⟩,
    ⟨(some 20), .mv (.tmp 0), (some (19, false))⟩,
    ⟨(some 21), .nil (.tmp 20), (some (19, false))⟩,
    ⟨(some 22), .fa 11 (.tmp 21), (some (19, false))⟩,
    ⟨(some 23), .ld (.tmp 22), (some (19, false))⟩,
    ⟨(some 24), .bin .neq (.tmp 23) (.const (.int .i64 0)), (some (19, false))⟩,
    ⟨(some 25), .pick (.tmp 19) (.const (.bool true)) (.tmp 24), none⟩,
    ⟨(some 26), .mv (.tmp 25), none⟩,
    ⟨(some 27), .mv (.tmp 0), (some (26, false))⟩,
    ⟨(some 28), .nil (.tmp 27), (some (26, false))⟩,
    ⟨(some 29), .fa 4 (.tmp 28), (some (26, false))⟩,
    ⟨(some 30), .ld (.tmp 29), (some (26, false))⟩,
    ⟨(some 31), .mv (.tmp 1), (some (26, false))⟩,
    ⟨(some 32), .ix 1 (.tmp 30) (.tmp 31), (some (26, false))⟩,
    ⟨(some 33), .ld (.tmp 32), (some (26, false))⟩,
    ⟨(some 34), .nil (.tmp 33), (some (26, false))⟩,
    ⟨(some 35), .fa 0 (.tmp 34), (some (26, false))⟩,
    ⟨(some 36), .ld (.tmp 35), (some (26, false))⟩,
    ⟨(some 37), .bin .neq (.tmp 36) (.const (.int .i64 1)), (some (26, false))⟩,
    ⟨(some 38), .pick (.tmp 26) (.const (.bool true)) (.tmp 37), none⟩]) (.cond (.tmp 38) (.seq (.ops [
    ⟨(some 39), .bd [(.bool false), (.slice none 0 0)] [], none⟩,
    ⟨none, .st 2 (.tmp 6) (.tmp 39), none⟩]) (.ret)) (.skip))) (.seq (.ops [
    ⟨(some 40), .mv (.tmp 0), none⟩,
    ⟨(some 41), .mv (.tmp 0), none⟩,
    ⟨(some 42), .mv (.tmp 2), none⟩,
    ⟨(some 43), .nil (.tmp 40), none⟩,
    ⟨(some 44), .fa 13 (.tmp 43), none⟩,
    ⟨none, .st 1 (.tmp 44) (.const (.slice none 0 0)), none⟩,
    ⟨(some 45), .nil (.tmp 41), none⟩,
    ⟨(some 46), .fa 14 (.tmp 45), none⟩,
    ⟨none, .st 1 (.tmp 46) (.tmp 42), none⟩]) (.seq (.ops [
    ⟨(some 47), .mv (.tmp 0), none⟩,
    ⟨(some 48), .mv (.tmp 1), none⟩,
    ⟨(some 49), .call 17 [(.tmp 47), (.tmp 48)], none⟩,
    ⟨(some 7), .mv (.tmp 49), none⟩]) (.seq (.draw (.q 0 ⟨(some 50), .mv (.tmp 7), none⟩ <|
    .q 1 ⟨(some 51), .un .not (.tmp 50), none⟩ <|
    .q 2 ⟨(some 52), .mv (.tmp 51), none⟩ <|
    .q 3 ⟨(some 53), .mv (.tmp 0), (some (52, true))⟩ <|
    .q 4 ⟨(some 54), .nil (.tmp 53), (some (52, true))⟩ <|
    .q 5 ⟨(some 55), .fa 11 (.tmp 54), (some (52, true))⟩ <|
    .q 6 ⟨(some 56), .ld (.tmp 55), (some (52, true))⟩ <|
    .q 7 ⟨(some 57), .bin .eql (.tmp 56) (.const (.int .i64 0)), (some (52, true))⟩ <|
    .q 8 ⟨(some 58), .pick (.tmp 52) (.tmp 57) (.const (.bool false)), none⟩ <|
    .q 9 ⟨(some 59), .mv (.tmp 58), none⟩ <|
    .q 10 ⟨(some 60), .mv (.tmp 0), (some (59, true))⟩ <|
    .q 11 ⟨(some 61), .nil (.tmp 60), (some (59, true))⟩ <|
    .q 12 ⟨(some 62), .fa 4 (.tmp 61), (some (59, true))⟩ <|
    .q 13 ⟨(some 63), .ld (.tmp 62), (some (59, true))⟩ <|
    .q 14 ⟨(some 64), .mv (.tmp 1), (some (59, true))⟩ <|
    .q 15 ⟨(some 65), .ix 1 (.tmp 63) (.tmp 64), (some (59, true))⟩ <|
    .q 16 ⟨(some 66), .ld (.tmp 65), (some (59, true))⟩ <|
    .q 17 ⟨(some 67), .nil (.tmp 66), (some (59, true))⟩ <|
    .q 18 ⟨(some 68), .fa 0 (.tmp 67), (some (59, true))⟩ <|
    .q 19 ⟨(some 69), .ld (.tmp 68), (some (59, true))⟩ <|
    .q 20 ⟨(some 70), .bin .eql (.tmp 69) (.const (.int .i64 1)), (some (59, true))⟩ <|
    .q 21 ⟨(some 71), .pick (.tmp 59) (.tmp 70) (.const (.bool false)), none⟩ <|
    .q 22 ⟨(some 72), .mv (.tmp 0), none⟩ <|
    .q 23 ⟨(some 73), .nil (.tmp 72), none⟩ <|
    .q 24 ⟨(some 74), .fa 13 (.tmp 73), none⟩ <|
    .q 25 ⟨(some 75), .ld (.tmp 74), none⟩ <|
    .q 26 ⟨(some 76), .bd [(.bool false), (.slice none 0 0)] [(0, 1, (.tmp 71)), (1, 1, (.tmp 75))], none⟩ <|
    .x [] ⟨none, .st 2 (.tmp 6) (.tmp 76), none⟩ <|
    .n)) (.ret)))))⟩
theorem sl7 : slimF Try.prog h7 Try.f7 = some s7 := by kernel_rfl

/- 8: (*shunter/world.World).Tick -/
def h8 : List (Nat × ST × List OD) := [(5, .q 0 <| .q 1 <| .q 2 <| .q 3 <| .q 4 <| .q 5 <| .q 6 <| .q 9 <| .x 7 <| .q 8 <| .n, [(0, 21, 1), (1, 22, 1048576), (2, 23, 2097152), (0, 24, 1), (8, 25, 8388608), (16, 26, 16777216), (32, 27, 33554432), (68, 28, 71303168), (128, 29, 134217728), (0, 30, 0)])]
def s8 : SF := ⟨42, [.t 2], .seq (.ops [
    ⟨(some 2), .mv (.const (.slice none 0 0)), none⟩]) (.seq (.seq (.ops [
    ⟨(some 5), .mv (.tmp 0), none⟩,
    ⟨(some 6), .nil (.tmp 5), none⟩,
    ⟨(some 7), .fa 11 (.tmp 6), none⟩,
    ⟨(some 8), .ld (.tmp 7), none⟩,
    ⟨(some 9), .bin .neq (.tmp 8) (.const (.int .i64 0)), none⟩]) (.cond (.tmp 9) (.seq (.ops [
    ⟨(some 2), .mv (.const (.slice none 0 0)), none⟩]) (.ret)) (.skip))) (.seq (.ops [
    ⟨(some 10), .mv (.tmp 0), none⟩,
    ⟨(some 11), .nil (.tmp 10), none⟩,
    ⟨(some 12), .fa 5 (.tmp 11), none⟩,
    ⟨(some 13), .ld (.tmp 12), none⟩,
    ⟨(some 14), .bin .add (.tmp 13) (.const (.int .u64 1)), none⟩,
    ⟨(some 15), .nil (.tmp 10), none⟩,
    ⟨(some 16), .fa 5 (.tmp 15), none⟩,
    ⟨none, .st 1 (.tmp 16) (.tmp 14), none⟩]) (.seq (.ops [
    ⟨(some 17), .mv (.tmp 0), none⟩,
    ⟨(some 18), .nil (.tmp 17), none⟩,
    ⟨(some 19), .fa 13 (.tmp 18), none⟩,
    ⟨none, .st 1 (.tmp 19) (.const (.slice none 0 0)), none⟩]) (.seq (.seq (.draw (.q 0 ⟨(some 20), .mv (.tmp 0), none⟩ <|
    .q 1 ⟨(some 21), .nil (.tmp 20), none⟩ <|
    .q 2 ⟨(some 22), .fa 8 (.tmp 21), none⟩ <|
    .q 3 ⟨(some 23), .mv (.tmp 0), none⟩ <|
    .q 4 ⟨(some 24), .nil (.tmp 23), none⟩ <|
    .q 5 ⟨(some 25), .fa 5 (.tmp 24), none⟩ <|
    .q 6 ⟨(some 26), .ld (.tmp 25), none⟩ <|
    .q 9 ⟨(some 29), .mv (.const (.int .i64 0)), none⟩ <|
    .x [] ⟨(some 27), .call 18 [(.tmp 22), (.tmp 26)], none⟩ <|
    .q 8 ⟨(some 28), .len false (.tmp 27), none⟩ <|
    .n)) (.block 0 (.loop (.seq (.ops [
    ⟨(some 30), .bin .lss (.tmp 29) (.tmp 28), none⟩]) (.seq (.cond (.tmp 30) (.skip) (.exit 0)) (.seq (.block 1 (.seq (.ops [
    ⟨(some 31), .ix 3 (.tmp 27) (.tmp 29), none⟩,
    ⟨(some 32), .lda 3 (.tmp 31), none⟩,
    ⟨(some 4), .al 68 [(.int .u64 0), (.int .u64 0), (.int .i64 0)], none⟩,
    ⟨none, .st 3 (.tmp 4) (.tmp 32), none⟩]) (.ops [
    ⟨(some 33), .mv (.tmp 0), none⟩,
    ⟨(some 34), .fa 2 (.tmp 4), none⟩,
    ⟨(some 35), .ld (.tmp 34), none⟩,
    ⟨(some 36), .call 19 [(.tmp 33), (.tmp 35)], none⟩]))) (.ops [
    ⟨(some 37), .bin .add (.tmp 29) (.const (.int .i64 1)), none⟩,
    ⟨(some 29), .mv (.tmp 37), none⟩]))))))) (.seq (.ops [
    ⟨(some 38), .mv (.tmp 0), none⟩,
    ⟨(some 39), .nil (.tmp 38), none⟩,
    ⟨(some 40), .fa 13 (.tmp 39), none⟩,
    ⟨(some 41), .ld (.tmp 40), none⟩,
    ⟨(some 2), .mv (.tmp 41), none⟩]) (.ret))))))⟩
theorem sl8 : slimF Try.prog h8 Try.f8 = some s8 := by kernel_rfl

/- 13: (*shunter/world.World).Status -/
def h13 : List (Nat × ST × List OD) := []
def s13 : SF := ⟨26, [.t 4], .seq (.ops [
    ⟨(some 4), .mv (.const (.int .i64 0)), none⟩]) (.seq (.seq (.ops [
    ⟨(some 5), .mv (.tmp 1), none⟩,
    ⟨(some 6), .bin .lss (.tmp 5) (.const (.int .i64 0)), none⟩,
    ⟨(some 7), .mv (.tmp 6), none⟩,
    ⟨(some 8), .mv (.tmp 1), (some (7, false))⟩,
    ⟨(some 9), .mv (.tmp 0), (some (7, false))⟩,
    ⟨(some 10), .nil (.tmp 9), (some (7, false))⟩,
    ⟨(some 11), .fa 4 (.tmp 10), (some (7, false))⟩,
    ⟨(some 12), .ld (.tmp 11), (some (7, false))⟩,
    ⟨(some 13), .len false (.tmp 12), (some (7, false))⟩,
    ⟨(some 14), .bin .geq (.tmp 8) (.tmp 13), (some (7, false))⟩,
    ⟨(some 15), .pick (.tmp 7) (.const (.bool true)) (.tmp 14), none⟩]) (.cond (.tmp 15) (.seq (.ops [
    ⟨(some 4), .mv (.const (.int .i64 0)), none⟩]) (.ret)) (.skip))) (.seq (.ops [
    ⟨(some 16), .mv (.tmp 0), none⟩,
    ⟨(some 17), .nil (.tmp 16), none⟩,
    ⟨(some 18), .fa 4 (.tmp 17), none⟩,
    ⟨(some 19), .ld (.tmp 18), none⟩,
    ⟨(some 20), .mv (.tmp 1), none⟩,
    ⟨(some 21), .ix 1 (.tmp 19) (.tmp 20), none⟩,
    ⟨(some 22), .ld (.tmp 21), none⟩,
    ⟨(some 23), .nil (.tmp 22), none⟩,
    ⟨(some 24), .fa 0 (.tmp 23), none⟩,
    ⟨(some 25), .ld (.tmp 24), none⟩,
    ⟨(some 4), .mv (.tmp 25), none⟩]) (.ret)))⟩
theorem sl13 : slimF Try.prog h13 Try.f13 = some s13 := by kernel_rfl

/- 12: (*shunter/world.World).End -/
def h12 : List (Nat × ST × List OD) := [(1, .q 0 <| .q 1 <| .q 2 <| .q 3 <| .q 4 <| .q 5 <| .q 6 <| .q 7 <| .q 8 <| .q 9 <| .n, [(0, 5, 1), (1, 6, 16), (2, 7, 32), (4, 8, 64), (0, 9, 1), (16, 10, 256), (32, 11, 512), (64, 12, 1024), (15, 3, 128), (511, 4, 2048)])]
def s12 : SF := ⟨12, [.t 2, .t 3], .seq (.ops [
    ⟨(some 2), .mv (.const (.int .i64 0)), none⟩,
    ⟨(some 3), .mv (.const (.int .i64 0)), none⟩]) (.seq (.draw (.q 0 ⟨(some 4), .mv (.tmp 0), none⟩ <|
    .q 1 ⟨(some 5), .nil (.tmp 4), none⟩ <|
    .q 2 ⟨(some 6), .fa 11 (.tmp 5), none⟩ <|
    .q 3 ⟨(some 7), .ld (.tmp 6), none⟩ <|
    .q 4 ⟨(some 8), .mv (.tmp 0), none⟩ <|
    .q 5 ⟨(some 9), .nil (.tmp 8), none⟩ <|
    .q 6 ⟨(some 10), .fa 12 (.tmp 9), none⟩ <|
    .q 7 ⟨(some 11), .ld (.tmp 10), none⟩ <|
    .q 8 ⟨(some 2), .mv (.tmp 7), none⟩ <|
    .q 9 ⟨(some 3), .mv (.tmp 11), none⟩ <|
    .n)) (.ret))⟩
theorem sl12 : slimF Try.prog h12 Try.f12 = some s12 := by kernel_rfl

/- 9: (*shunter/world.World).Out -/
def h9 : List (Nat × ST × List OD) := []
def s9 : SF := ⟨9, [.t 2], .seq (.ops [
    ⟨(some 2), .mv (.const (.slice none 0 0)), none⟩]) (.seq (.ops [
    ⟨(some 3), .bs 2 0 [] [], none⟩,
    ⟨(some 4), .mv (.tmp 0), none⟩,
    ⟨(some 5), .nil (.tmp 4), none⟩,
    ⟨(some 6), .fa 10 (.tmp 5), none⟩,
    ⟨(some 7), .ld (.tmp 6), none⟩,
    ⟨(some 8), .app 2 1 8 #[(.int .i64 0)] (.tmp 3) (.tmp 7), none⟩,
    ⟨(some 2), .mv (.tmp 8), none⟩]) (.ret))⟩
theorem sl9 : slimF Try.prog h9 Try.f9 = some s9 := by kernel_rfl

/- 10: (*shunter/world.World).Sleepers -/
def h10 : List (Nat × ST × List OD) := []
def s10 : SF := ⟨7, [.t 2], .seq (.ops [
    ⟨(some 2), .mv (.const (.slice none 0 0)), none⟩]) (.seq (.ops [
    ⟨(some 3), .mv (.tmp 0), none⟩,
    ⟨(some 4), .nil (.tmp 3), none⟩,
    ⟨(some 5), .fa 8 (.tmp 4), none⟩,
    ⟨(some 6), .call 20 [(.tmp 5)], none⟩,
    ⟨(some 2), .mv (.tmp 6), none⟩]) (.ret))⟩
theorem sl10 : slimF Try.prog h10 Try.f10 = some s10 := by kernel_rfl

end Go.Proofs.Ytojbbajmldbffaa
