/- Slim code of 9 functions, each held against the program by the kernel. -/
import Derived.Test.YtojbbajmldbffaaProg
import Derived.Test.YtojbbajmldbffaaDefer
import Derived.KernelRfl
set_option maxRecDepth 100000
namespace Go.Proofs.Ytojbbajmldbffaa
open Go.Shu

/- 74: shunter/heap.before -/
def h74 : List (Nat × ST × List OD) := []
def s74 : SF := ⟨24, [.t 4], .seq (.ops [
    ⟨(some 2), .box 68 (.tmp 0), none⟩,
    ⟨(some 3), .box 68 (.tmp 1), none⟩,
    ⟨(some 4), .mv (.const (.bool false)), none⟩]) (.seq (.ops [
    ⟨(some 5), .fa 0 (.tmp 2), none⟩,
    ⟨(some 6), .ld (.tmp 5), none⟩,
    ⟨(some 7), .fa 0 (.tmp 3), none⟩,
    ⟨(some 8), .ld (.tmp 7), none⟩,
    ⟨(some 9), .bin .lss (.tmp 6) (.tmp 8), none⟩,
    ⟨(some 10), .mv (.tmp 9), none⟩,
    ⟨(some 11), .fa 0 (.tmp 2), (some (10, false))⟩,
    ⟨(some 12), .ld (.tmp 11), (some (10, false))⟩,
    ⟨(some 13), .fa 0 (.tmp 3), (some (10, false))⟩,
    ⟨(some 14), .ld (.tmp 13), (some (10, false))⟩,
    ⟨(some 15), .bin .eql (.tmp 12) (.tmp 14), (some (10, false))⟩,
    ⟨(some 16), .mv (.tmp 15), (some (10, false))⟩,
    ⟨(some 17), .fa 1 (.tmp 2), (some (16, true))⟩,
    ⟨(some 18), .ld (.tmp 17), (some (16, true))⟩,
    ⟨(some 19), .fa 1 (.tmp 3), (some (16, true))⟩,
    ⟨(some 20), .ld (.tmp 19), (some (16, true))⟩,
    ⟨(some 21), .bin .lss (.tmp 18) (.tmp 20), (some (16, true))⟩,
    ⟨(some 22), .pick (.tmp 16) (.tmp 21) (.const (.bool false)), (some (10, false))⟩,
    ⟨(some 23), .pick (.tmp 10) (.const (.bool true)) (.tmp 22), none⟩,
    ⟨(some 4), .mv (.tmp 23), none⟩]) (.ret))⟩
theorem sl74 : slimF Try.prog h74 Try.f74 = some s74 := by kernel_rfl

/- 48: (*shunter/heap.Heap).swap -/
def h48 : List (Nat × ST × List OD) := [(0, .q 0 <| .q 1 <| .q 2 <| .q 3 <| .q 4 <| .q 5 <| .q 6 <| .q 7 <| .q 8 <| .q 9 <| .q 10 <| .q 11 <| .q 12 <| .q 13 <| .q 14 <| .q 15 <| .q 16 <| .q 17 <| .q 18 <| .q 19 <| .q 20 <| .q 21 <| .q 22 <| .q 23 <| .q 24 <| .x 25 <| .q 26 <| .x 27 <| .n, [(0, 7, 1), (1, 8, 64), (2, 9, 128), (4, 10, 256), (0, 11, 2), (0, 12, 1), (32, 13, 2048), (64, 14, 4096), (128, 15, 8192), (0, 16, 4), (0, 17, 1), (1024, 18, 65536), (2048, 19, 131072), (4096, 20, 262144), (0, 21, 4), (24576, 22, 1572864), (32768, 23, 2097152), (0, 24, 1), (131072, 25, 8388608), (262144, 26, 16777216), (524288, 27, 33554432), (0, 28, 2), (3145728, 29, 201326592), (4194304, 30, 268435456), (9567519, 31, 1536), (26344735, 0, 1077936128), (67108863, 32, 49152), (134217727, 0, 2684354560)])]
def s48 : SF := ⟨32, [], .draw (.q 0 ⟨(some 6), .mv (.tmp 0), none⟩ <|
    .q 1 ⟨(some 7), .nil (.tmp 6), none⟩ <|
    .q 2 ⟨(some 8), .fa 0 (.tmp 7), none⟩ <|
    .q 3 ⟨(some 9), .ld (.tmp 8), none⟩ <|
    .q 4 ⟨(some 10), .mv (.tmp 1), none⟩ <|
    .q 5 ⟨(some 11), .mv (.tmp 0), none⟩ <|
    .q 6 ⟨(some 12), .nil (.tmp 11), none⟩ <|
    .q 7 ⟨(some 13), .fa 0 (.tmp 12), none⟩ <|
    .q 8 ⟨(some 14), .ld (.tmp 13), none⟩ <|
    .q 9 ⟨(some 15), .mv (.tmp 2), none⟩ <|
    .q 10 ⟨(some 16), .mv (.tmp 0), none⟩ <|
    .q 11 ⟨(some 17), .nil (.tmp 16), none⟩ <|
    .q 12 ⟨(some 18), .fa 0 (.tmp 17), none⟩ <|
    .q 13 ⟨(some 19), .ld (.tmp 18), none⟩ <|
    .q 14 ⟨(some 20), .mv (.tmp 2), none⟩ <|
    .q 15 ⟨(some 21), .ix 3 (.tmp 19) (.tmp 20), none⟩ <|
    .q 16 ⟨(some 22), .lda 3 (.tmp 21), none⟩ <|
    .q 17 ⟨(some 23), .mv (.tmp 0), none⟩ <|
    .q 18 ⟨(some 24), .nil (.tmp 23), none⟩ <|
    .q 19 ⟨(some 25), .fa 0 (.tmp 24), none⟩ <|
    .q 20 ⟨(some 26), .ld (.tmp 25), none⟩ <|
    .q 21 ⟨(some 27), .mv (.tmp 1), none⟩ <|
    .q 22 ⟨(some 28), .ix 3 (.tmp 26) (.tmp 27), none⟩ <|
    .q 23 ⟨(some 29), .lda 3 (.tmp 28), none⟩ <|
    .q 24 ⟨(some 30), .ix 3 (.tmp 9) (.tmp 10), none⟩ <|
    .x [] ⟨none, .st 3 (.tmp 30) (.tmp 22), none⟩ <|
    .q 26 ⟨(some 31), .ix 3 (.tmp 14) (.tmp 15), none⟩ <|
    .x [] ⟨none, .st 3 (.tmp 31) (.tmp 29), none⟩ <|
    .n)⟩
theorem sl48 : slimF Try.prog h48 Try.f48 = some s48 := by kernel_rfl

/- 50: (*shunter/heap.Heap).up -/
def h50 : List (Nat × ST × List OD) := [(0, .q 0 <| .q 1 <| .q 2 <| .q 3 <| .q 4 <| .q 5 <| .q 6 <| .q 7 <| .q 8 <| .q 9 <| .q 10 <| .q 11 <| .q 12 <| .q 13 <| .q 14 <| .q 15 <| .q 16 <| .q 17 <| .q 18 <| .x 19 <| .q 20 <| .n, [(0, 5, 2), (1, 6, 16), (2, 7, 32), (4, 8, 65), (12, 9, 192), (20, 10, 320), (36, 11, 576), (4, 12, 66), (196, 13, 3136), (260, 14, 4160), (4, 15, 65), (1028, 16, 16448), (2052, 17, 32832), (4100, 18, 65600), (4, 19, 66), (16388, 20, 262208), (32772, 21, 524352), (73732, 22, 1179712), (131076, 23, 2097216), (262660, 24, 4202560), (524292, 25, 8388672)])]
def s50 : SF := ⟨34, [], .block 0 (.loop (.seq (.seq (.draw (.q 0 ⟨(some 4), .mv (.tmp 1), none⟩ <|
    .q 1 ⟨(some 5), .bin .gtr (.tmp 4) (.const (.int .i64 0)), none⟩ <|
    .q 2 ⟨(some 6), .mv (.tmp 5), none⟩ <|
    .q 3 ⟨(some 7), .mv (.tmp 0), (some (6, true))⟩ <|
    .q 4 ⟨(some 8), .nil (.tmp 7), (some (6, true))⟩ <|
    .q 5 ⟨(some 9), .fa 0 (.tmp 8), (some (6, true))⟩ <|
    .q 6 ⟨(some 10), .ld (.tmp 9), (some (6, true))⟩ <|
    .q 7 ⟨(some 11), .mv (.tmp 1), (some (6, true))⟩ <|
    .q 8 ⟨(some 12), .ix 3 (.tmp 10) (.tmp 11), (some (6, true))⟩ <|
    .q 9 ⟨(some 13), .lda 3 (.tmp 12), (some (6, true))⟩ <|
    .q 10 ⟨(some 14), .mv (.tmp 0), (some (6, true))⟩ <|
    .q 11 ⟨(some 15), .nil (.tmp 14), (some (6, true))⟩ <|
    .q 12 ⟨(some 16), .fa 0 (.tmp 15), (some (6, true))⟩ <|
    .q 13 ⟨(some 17), .ld (.tmp 16), (some (6, true))⟩ <|
    .q 14 ⟨(some 18), .mv (.tmp 1), (some (6, true))⟩ <|
    .q 15 ⟨(some 19), .bin .sub (.tmp 18) (.const (.int .i64 1)), (some (6, true))⟩ <|
    .q 16 ⟨(some 20), .bin .quo (.tmp 19) (.const (.int .i64 4)), (some (6, true))⟩ <|
    .q 17 ⟨(some 21), .ix 3 (.tmp 17) (.tmp 20), (some (6, true))⟩ <|
    .q 18 ⟨(some 22), .lda 3 (.tmp 21), (some (6, true))⟩ <|
    .x [] ⟨(some 23), .call 74 [(.tmp 13), (.tmp 22)], (some (6, true))⟩ <|
    .q 20 ⟨(some 24), .pick (.tmp 6) (.tmp 23) (.const (.bool false)), none⟩ <|
    .n)) (.cond (.tmp 24) (.skip) (.exit 0))) (.block 1 (.seq (.ops [
    ⟨(some 25), .mv (.tmp 0), none⟩,
    ⟨(some 26), .mv (.tmp 1), none⟩,
    ⟨(some 27), .mv (.tmp 1), none⟩,
    ⟨(some 28), .bin .sub (.tmp 27) (.const (.int .i64 1)), none⟩,
    ⟨(some 29), .bin .quo (.tmp 28) (.const (.int .i64 4)), none⟩,
    ⟨(some 30), .call 48 [(.tmp 25), (.tmp 26), (.tmp 29)], none⟩]) (.ops [
    ⟨(some 31), .mv (.tmp 1), none⟩,
    ⟨(some 32), .bin .sub (.tmp 31) (.const (.int .i64 1)), none⟩,
    ⟨(some 33), .bin .quo (.tmp 32) (.const (.int .i64 4)), none⟩,
    ⟨(some 1), .mv (.tmp 33), none⟩])))))⟩
theorem sl50 : slimF Try.prog h50 Try.f50 = some s50 := by kernel_rfl

/- 73: (*shunter/heap.Heap).least -/
def h73 : List (Nat × ST × List OD) := [(5, .q 0 <| .q 1 <| .q 2 <| .q 3 <| .q 4 <| .q 5 <| .q 6 <| .q 7 <| .q 8 <| .q 9 <| .q 10 <| .q 11 <| .q 12 <| .q 13 <| .x 14 <| .n, [(0, 28, 1), (1, 29, 134217728), (2, 30, 268435456), (4, 31, 536870912), (0, 32, 64), (24, 33, 3221225472), (32, 34, 4294967296), (0, 35, 1), (128, 36, 17179869184), (256, 37, 34359738368), (512, 38, 68719476736), (0, 39, 32), (3072, 40, 412316860416), (4096, 41, 549755813888), (8256, 42, 1108101562368)])]
def s73 : SF := ⟨44, [.t 4], .seq (.ops [
    ⟨(some 4), .mv (.const (.int .i64 0)), none⟩]) (.seq (.ops [
    ⟨(some 7), .mv (.tmp 1), none⟩,
    ⟨(some 5), .mv (.tmp 7), none⟩]) (.seq (.seq (.ops [
    ⟨(some 8), .mv (.tmp 1), none⟩,
    ⟨(some 9), .bin .mul (.const (.int .i64 4)) (.tmp 8), none⟩,
    ⟨(some 10), .bin .add (.tmp 9) (.const (.int .i64 1)), none⟩,
    ⟨(some 6), .mv (.tmp 10), none⟩]) (.block 0 (.loop (.seq (.seq (.ops [
    ⟨(some 11), .mv (.tmp 6), none⟩,
    ⟨(some 12), .mv (.tmp 1), none⟩,
    ⟨(some 13), .bin .mul (.const (.int .i64 4)) (.tmp 12), none⟩,
    ⟨(some 14), .bin .add (.tmp 13) (.const (.int .i64 4)), none⟩,
    ⟨(some 15), .bin .leq (.tmp 11) (.tmp 14), none⟩,
    ⟨(some 16), .mv (.tmp 15), none⟩,
    ⟨(some 17), .mv (.tmp 6), (some (16, true))⟩,
    ⟨(some 18), .mv (.tmp 0), (some (16, true))⟩,
    ⟨(some 19), .nil (.tmp 18), (some (16, true))⟩,
    ⟨(some 20), .fa 0 (.tmp 19), (some (16, true))⟩,
    ⟨(some 21), .ld (.tmp 20), (some (16, true))⟩,
    ⟨(some 22), .len false (.tmp 21), (some (16, true))⟩,
    ⟨(some 23), .bin .lss (.tmp 17) (.tmp 22), (some (16, true))⟩,
    ⟨(some 24), .pick (.tmp 16) (.tmp 23) (.const (.bool false)), none⟩]) (.cond (.tmp 24) (.skip) (.exit 0))) (.seq (.block 1 (.seq (.draw (.q 0 ⟨(some 27), .mv (.tmp 0), none⟩ <|
    .q 1 ⟨(some 28), .nil (.tmp 27), none⟩ <|
    .q 2 ⟨(some 29), .fa 0 (.tmp 28), none⟩ <|
    .q 3 ⟨(some 30), .ld (.tmp 29), none⟩ <|
    .q 4 ⟨(some 31), .mv (.tmp 6), none⟩ <|
    .q 5 ⟨(some 32), .ix 3 (.tmp 30) (.tmp 31), none⟩ <|
    .q 6 ⟨(some 33), .lda 3 (.tmp 32), none⟩ <|
    .q 7 ⟨(some 34), .mv (.tmp 0), none⟩ <|
    .q 8 ⟨(some 35), .nil (.tmp 34), none⟩ <|
    .q 9 ⟨(some 36), .fa 0 (.tmp 35), none⟩ <|
    .q 10 ⟨(some 37), .ld (.tmp 36), none⟩ <|
    .q 11 ⟨(some 38), .mv (.tmp 5), none⟩ <|
    .q 12 ⟨(some 39), .ix 3 (.tmp 37) (.tmp 38), none⟩ <|
    .q 13 ⟨(some 40), .lda 3 (.tmp 39), none⟩ <|
    .x [] ⟨(some 41), .call 74 [(.tmp 33), (.tmp 40)], none⟩ <|
    .n)) (.cond (.tmp 41) (.ops [
    ⟨(some 42), .mv (.tmp 6), none⟩,
    ⟨(some 5), .mv (.tmp 42), none⟩]) (.skip)))) (.ops [
    ⟨(some 25), .mv (.tmp 6), none⟩,
    ⟨(some 26), .bin .add (.tmp 25) (.const (.int .i64 1)), none⟩,
    ⟨(some 6), .mv (.tmp 26), none⟩])))))) (.seq (.ops [
    ⟨(some 43), .mv (.tmp 5), none⟩,
    ⟨(some 4), .mv (.tmp 43), none⟩]) (.ret))))⟩
theorem sl73 : slimF Try.prog h73 Try.f73 = some s73 := by kernel_rfl

/- 49: (*shunter/heap.Heap).down -/
def h49 : List (Nat × ST × List OD) := []
def s49 : SF := ⟨19, [], .seq (.ops [
    ⟨(some 5), .mv (.tmp 0), none⟩,
    ⟨(some 6), .mv (.tmp 1), none⟩,
    ⟨(some 7), .call 73 [(.tmp 5), (.tmp 6)], none⟩,
    ⟨(some 4), .mv (.tmp 7), none⟩]) (.block 0 (.loop (.seq (.seq (.ops [
    ⟨(some 8), .mv (.tmp 4), none⟩,
    ⟨(some 9), .mv (.tmp 1), none⟩,
    ⟨(some 10), .bin .neq (.tmp 8) (.tmp 9), none⟩]) (.cond (.tmp 10) (.skip) (.exit 0))) (.seq (.block 1 (.seq (.ops [
    ⟨(some 14), .mv (.tmp 0), none⟩,
    ⟨(some 15), .mv (.tmp 1), none⟩,
    ⟨(some 16), .mv (.tmp 4), none⟩,
    ⟨(some 17), .call 48 [(.tmp 14), (.tmp 15), (.tmp 16)], none⟩]) (.ops [
    ⟨(some 18), .mv (.tmp 4), none⟩,
    ⟨(some 1), .mv (.tmp 18), none⟩]))) (.ops [
    ⟨(some 11), .mv (.tmp 0), none⟩,
    ⟨(some 12), .mv (.tmp 1), none⟩,
    ⟨(some 13), .call 73 [(.tmp 11), (.tmp 12)], none⟩,
    ⟨(some 4), .mv (.tmp 13), none⟩])))))⟩
theorem sl49 : slimF Try.prog h49 Try.f49 = some s49 := by kernel_rfl

/- 70: (*shunter/heap.Heap).Push -/
def h70 : List (Nat × ST × List OD) := [(1, .q 0 <| .q 1 <| .q 2 <| .q 3 <| .q 4 <| .q 5 <| .q 6 <| .q 7 <| .q 8 <| .q 9 <| .q 10 <| .q 11 <| .x 12 <| .x 13 <| .q 14 <| .q 15 <| .x 16 <| .n, [(0, 8, 1), (0, 9, 1), (2, 10, 256), (4, 11, 512), (8, 12, 1024), (0, 13, 2), (0, 14, 1), (64, 15, 8192), (128, 16, 16384), (256, 17, 32768), (0, 18, 4), (1568, 19, 200704), (2048, 20, 262144), (4112, 21, 526336), (16383, 22, 128), (32767, 23, 2097152), (49151, 0, 5242880)])]
def s70 : SF := ⟨43, [.t 6], .seq (.ops [
    ⟨(some 6), .mv (.const (.int .u64 0)), none⟩]) (.seq (.draw (.q 0 ⟨(some 7), .mv (.tmp 0), none⟩ <|
    .q 1 ⟨(some 8), .mv (.tmp 0), none⟩ <|
    .q 2 ⟨(some 9), .nil (.tmp 8), none⟩ <|
    .q 3 ⟨(some 10), .fa 0 (.tmp 9), none⟩ <|
    .q 4 ⟨(some 11), .ld (.tmp 10), none⟩ <|
    .q 5 ⟨(some 12), .mv (.tmp 1), none⟩ <|
    .q 6 ⟨(some 13), .mv (.tmp 0), none⟩ <|
    .q 7 ⟨(some 14), .nil (.tmp 13), none⟩ <|
    .q 8 ⟨(some 15), .fa 1 (.tmp 14), none⟩ <|
    .q 9 ⟨(some 16), .ld (.tmp 15), none⟩ <|
    .q 10 ⟨(some 17), .mv (.tmp 2), none⟩ <|
    .q 11 ⟨(some 18), .bd [(.int .u64 0), (.int .u64 0), (.int .i64 0)] [(0, 1, (.tmp 12)), (1, 1, (.tmp 16)), (2, 1, (.tmp 17))], none⟩ <|
    .x [4] ⟨(some 19), .bs 68 1 [(.int .u64 0), (.int .u64 0), (.int .i64 0)] [(0, 3, (.tmp 18))], none⟩ <|
    .x [] ⟨(some 20), .app 68 3 24 #[(.int .u64 0), (.int .u64 0), (.int .i64 0)] (.tmp 11) (.tmp 19), none⟩ <|
    .q 14 ⟨(some 21), .nil (.tmp 7), none⟩ <|
    .q 15 ⟨(some 22), .fa 0 (.tmp 21), none⟩ <|
    .x [] ⟨none, .st 1 (.tmp 22) (.tmp 20), none⟩ <|
    .n)) (.seq (.ops [
    ⟨(some 23), .mv (.tmp 0), none⟩,
    ⟨(some 24), .nil (.tmp 23), none⟩,
    ⟨(some 25), .fa 1 (.tmp 24), none⟩,
    ⟨(some 26), .ld (.tmp 25), none⟩,
    ⟨(some 27), .bin .add (.tmp 26) (.const (.int .u64 1)), none⟩,
    ⟨(some 28), .nil (.tmp 23), none⟩,
    ⟨(some 29), .fa 1 (.tmp 28), none⟩,
    ⟨none, .st 1 (.tmp 29) (.tmp 27), none⟩]) (.seq (.ops [
    ⟨(some 30), .mv (.tmp 0), none⟩,
    ⟨(some 31), .mv (.tmp 0), none⟩,
    ⟨(some 32), .nil (.tmp 31), none⟩,
    ⟨(some 33), .fa 0 (.tmp 32), none⟩,
    ⟨(some 34), .ld (.tmp 33), none⟩,
    ⟨(some 35), .len false (.tmp 34), none⟩,
    ⟨(some 36), .bin .sub (.tmp 35) (.const (.int .i64 1)), none⟩,
    ⟨(some 37), .call 50 [(.tmp 30), (.tmp 36)], none⟩]) (.seq (.ops [
    ⟨(some 38), .mv (.tmp 0), none⟩,
    ⟨(some 39), .nil (.tmp 38), none⟩,
    ⟨(some 40), .fa 1 (.tmp 39), none⟩,
    ⟨(some 41), .ld (.tmp 40), none⟩,
    ⟨(some 42), .bin .sub (.tmp 41) (.const (.int .u64 1)), none⟩,
    ⟨(some 6), .mv (.tmp 42), none⟩]) (.ret)))))⟩
theorem sl70 : slimF Try.prog h70 Try.f70 = some s70 := by kernel_rfl

/- 27: (*shunter/heap.Heap).remove -/
def h27 : List (Nat × ST × List OD) := []
def s27 : SF := ⟨43, [.c (some 3) 4], .seq (.ops [
    ⟨(some 4), .al 68 [(.int .u64 0), (.int .u64 0), (.int .i64 0)], none⟩]) (.seq (.ops [
    ⟨(some 7), .mv (.tmp 0), none⟩,
    ⟨(some 8), .nil (.tmp 7), none⟩,
    ⟨(some 9), .fa 0 (.tmp 8), none⟩,
    ⟨(some 10), .ld (.tmp 9), none⟩,
    ⟨(some 11), .mv (.tmp 1), none⟩,
    ⟨(some 12), .ix 3 (.tmp 10) (.tmp 11), none⟩,
    ⟨(some 13), .lda 3 (.tmp 12), none⟩,
    ⟨(some 5), .al 68 [(.int .u64 0), (.int .u64 0), (.int .i64 0)], none⟩,
    ⟨none, .st 3 (.tmp 5) (.tmp 13), none⟩]) (.seq (.ops [
    ⟨(some 14), .mv (.tmp 0), none⟩,
    ⟨(some 15), .nil (.tmp 14), none⟩,
    ⟨(some 16), .fa 0 (.tmp 15), none⟩,
    ⟨(some 17), .ld (.tmp 16), none⟩,
    ⟨(some 18), .len false (.tmp 17), none⟩,
    ⟨(some 19), .bin .sub (.tmp 18) (.const (.int .i64 1)), none⟩,
    ⟨(some 6), .mv (.tmp 19), none⟩]) (.seq (.ops [
    ⟨(some 20), .mv (.tmp 0), none⟩,
    ⟨(some 21), .mv (.tmp 1), none⟩,
    ⟨(some 22), .mv (.tmp 6), none⟩,
    ⟨(some 23), .call 48 [(.tmp 20), (.tmp 21), (.tmp 22)], none⟩]) (.seq (.ops [
    ⟨(some 24), .mv (.tmp 0), none⟩,
    ⟨(some 25), .mv (.tmp 0), none⟩,
    ⟨(some 26), .nil (.tmp 25), none⟩,
    ⟨(some 27), .fa 0 (.tmp 26), none⟩,
    ⟨(some 28), .ld (.tmp 27), none⟩,
    ⟨(some 29), .mv (.tmp 6), none⟩,
    ⟨(some 30), .sl 3 (.tmp 28) none (some (.tmp 29)) none, none⟩,
    ⟨(some 31), .nil (.tmp 24), none⟩,
    ⟨(some 32), .fa 0 (.tmp 31), none⟩,
    ⟨none, .st 1 (.tmp 32) (.tmp 30), none⟩]) (.seq (.seq (.ops [
    ⟨(some 33), .mv (.tmp 1), none⟩,
    ⟨(some 34), .mv (.tmp 6), none⟩,
    ⟨(some 35), .bin .lss (.tmp 33) (.tmp 34), none⟩]) (.cond (.tmp 35) (.seq (.ops [
    ⟨(some 36), .mv (.tmp 0), none⟩,
    ⟨(some 37), .mv (.tmp 1), none⟩,
    ⟨(some 38), .call 49 [(.tmp 36), (.tmp 37)], none⟩]) (.ops [
    ⟨(some 39), .mv (.tmp 0), none⟩,
    ⟨(some 40), .mv (.tmp 1), none⟩,
    ⟨(some 41), .call 50 [(.tmp 39), (.tmp 40)], none⟩])) (.skip))) (.seq (.ops [
    ⟨(some 42), .lda 3 (.tmp 5), none⟩,
    ⟨none, .st 3 (.tmp 4) (.tmp 42), none⟩]) (.ret)))))))⟩
theorem sl27 : slimF Try.prog h27 Try.f27 = some s27 := by kernel_rfl

/- 18: (*shunter/heap.Heap).Wake -/
def h18 : List (Nat × ST × List OD) := []
def s18 : SF := ⟨29, [.t 4], .seq (.ops [
    ⟨(some 4), .mv (.const (.slice none 0 0)), none⟩]) (.seq (.ops [
    ⟨(some 5), .mv (.const (.slice none 0 0)), none⟩]) (.seq (.block 0 (.loop (.seq (.seq (.ops [
    ⟨(some 6), .mv (.tmp 0), none⟩,
    ⟨(some 7), .nil (.tmp 6), none⟩,
    ⟨(some 8), .fa 0 (.tmp 7), none⟩,
    ⟨(some 9), .ld (.tmp 8), none⟩,
    ⟨(some 10), .len false (.tmp 9), none⟩,
    ⟨(some 11), .bin .gtr (.tmp 10) (.const (.int .i64 0)), none⟩,
    ⟨(some 12), .mv (.tmp 11), none⟩,
    ⟨(some 13), .mv (.tmp 0), (some (12, true))⟩,
    ⟨(some 14), .nil (.tmp 13), (some (12, true))⟩,
    ⟨(some 15), .fa 0 (.tmp 14), (some (12, true))⟩,
    ⟨(some 16), .ld (.tmp 15), (some (12, true))⟩,
    ⟨(some 17), .ix 3 (.tmp 16) (.const (.int .i64 0)), (some (12, true))⟩,
    ⟨(some 18), .fa 0 (.tmp 17), (some (12, true))⟩,
    ⟨(some 19), .ld (.tmp 18), (some (12, true))⟩,
    ⟨(some 20), .mv (.tmp 1), (some (12, true))⟩,
    ⟨(some 21), .bin .leq (.tmp 19) (.tmp 20), (some (12, true))⟩,
    ⟨(some 22), .pick (.tmp 12) (.tmp 21) (.const (.bool false)), none⟩]) (.cond (.tmp 22) (.skip) (.exit 0))) (.block 1 (.ops [
    ⟨(some 23), .mv (.tmp 5), none⟩,
    ⟨(some 24), .mv (.tmp 0), none⟩,
    ⟨(some 25), .call 27 [(.tmp 24), (.const (.int .i64 0))], none⟩,
    ⟨(some 26), .bs 68 1 [(.int .u64 0), (.int .u64 0), (.int .i64 0)] [(0, 3, (.tmp 25))], none⟩,
    ⟨(some 27), .app 68 3 24 #[(.int .u64 0), (.int .u64 0), (.int .i64 0)] (.tmp 23) (.tmp 26), none⟩,
    ⟨(some 5), .mv (.tmp 27), none⟩]))))) (.seq (.ops [
    ⟨(some 28), .mv (.tmp 5), none⟩,
    ⟨(some 4), .mv (.tmp 28), none⟩]) (.ret))))⟩
theorem sl18 : slimF Try.prog h18 Try.f18 = some s18 := by kernel_rfl

/- 20: (*shunter/heap.Heap).List -/
def h20 : List (Nat × ST × List OD) := []
def s20 : SF := ⟨21, [.t 2], .seq (.ops [
    ⟨(some 2), .mv (.const (.slice none 0 0)), none⟩]) (.seq (.ops [
    ⟨(some 5), .bs 68 0 [] [], none⟩,
    ⟨(some 6), .mv (.tmp 0), none⟩,
    ⟨(some 7), .nil (.tmp 6), none⟩,
    ⟨(some 8), .fa 0 (.tmp 7), none⟩,
    ⟨(some 9), .ld (.tmp 8), none⟩,
    ⟨(some 10), .app 68 3 24 #[(.int .u64 0), (.int .u64 0), (.int .i64 0)] (.tmp 5) (.tmp 9), none⟩,
    ⟨(some 11), .bd [(.slice none 0 0), (.int .u64 0)] [(0, 1, (.tmp 10))], none⟩,
    ⟨(some 3), .al 58 [(.slice none 0 0), (.int .u64 0)], none⟩,
    ⟨none, .st 2 (.tmp 3) (.tmp 11), none⟩]) (.seq (.ops [
    ⟨(some 4), .mv (.const (.slice none 0 0)), none⟩]) (.seq (.block 0 (.loop (.seq (.seq (.ops [
    ⟨(some 12), .fa 0 (.tmp 3), none⟩,
    ⟨(some 13), .ld (.tmp 12), none⟩,
    ⟨(some 14), .len false (.tmp 13), none⟩,
    ⟨(some 15), .bin .gtr (.tmp 14) (.const (.int .i64 0)), none⟩]) (.cond (.tmp 15) (.skip) (.exit 0))) (.block 1 (.ops [
    ⟨(some 16), .mv (.tmp 4), none⟩,
    ⟨(some 17), .call 27 [(.tmp 3), (.const (.int .i64 0))], none⟩,
    ⟨(some 18), .bs 68 1 [(.int .u64 0), (.int .u64 0), (.int .i64 0)] [(0, 3, (.tmp 17))], none⟩,
    ⟨(some 19), .app 68 3 24 #[(.int .u64 0), (.int .u64 0), (.int .i64 0)] (.tmp 16) (.tmp 18), none⟩,
    ⟨(some 4), .mv (.tmp 19), none⟩]))))) (.seq (.ops [
    ⟨(some 20), .mv (.tmp 4), none⟩,
    ⟨(some 2), .mv (.tmp 20), none⟩]) (.ret)))))⟩
theorem sl20 : slimF Try.prog h20 Try.f20 = some s20 := by kernel_rfl

end Go.Proofs.Ytojbbajmldbffaa
